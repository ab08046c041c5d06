/- Locality: the arcs up to a token boundary are those of the tokens before it. Conditions: none. -/
import Derived.Test.YtlimlhidndflhaaBa
namespace Go.Proofs
open Go.DM Go.DM.Srt
set_option linter.unusedSimpArgs false
set_option linter.unusedVariables false

theorem filter_ft_congr {p : Arc → Bool} {f g : Nat → List Arc} {i m : Nat} (h : ∀ k, i ≤ k → k < m → (f k).filter p = (g k).filter p) : (ft f i m).filter p = (ft g i m).filter p := by
  unfold ft
  rw [filter_flat, filter_flat]
  have : ∀ l : List Nat, (∀ e ∈ l, e < m - i) → (l.flatMap fun e => (f (i + e)).filter p) = l.flatMap fun e => (g (i + e)).filter p := by
    intro l
    induction l with
    | nil => intro _; rfl
    | cons e l ih =>
      intro hl
      rw [List.flatMap_cons, List.flatMap_cons, ih fun e he => hl e (by simp [he])]
      have := hl e (by simp)
      rw [h (i + e) (by omega) (by omega)]
  exact this _ fun e he => List.mem_range.1 he
theorem filter_ft_cut {p : Arc → Bool} {f : Nat → List Arc} {i m n : Nat} (him : i ≤ m) (hmn : m ≤ n) (h : ∀ k, m ≤ k → (f k).filter p = []) : (ft f i n).filter p = (ft f i m).filter p := by
  obtain ⟨d, rfl⟩ : ∃ d, n = m + d := ⟨n - m, by omega⟩
  clear hmn
  induction d with
  | zero => rfl
  | succ d ih => rw [← Nat.add_assoc, ft_succ f (by omega), List.filter_append, ih, h _ (by omega), List.append_nil]

/-- The first k tokens. -/
def part (x : Input) (k : Nat) : Input := ⟨x.columns.take k, x.insert, x.swap⟩
theorem part_len (x : Input) {k : Nat} (h : k ≤ x.columns.length) : (part x k).columns.length = k := by simp [part]; omega
theorem part_col (x : Input) {k m : Nat} (h : m < k) : (part x k).columns.getD m default = x.columns.getD m default := by
  simp [part, List.getD, List.getElem?_take, h]
theorem part_del (x : Input) {k i m : Nat} (h : m ≤ k) : delC (part x k) i m = delC x i m := by
  unfold delC part
  simp only
  rw [List.take_take, Nat.min_eq_left h]
theorem part_swap (x : Input) {k m : Nat} (hk : k ≤ x.columns.length) (h : m + 1 < k) : swapOk (part x k) m = swapOk x m := by
  unfold swapOk
  rw [part_len x hk, part_col x (by omega), part_col x h]
  have e : (part x k).swap = x.swap := rfl
  rw [e, decide_eq_decide]
  have : m + 1 < x.columns.length := by omega
  simp [h, this]
theorem part_swap_no (x : Input) {k m : Nat} (hk : k ≤ x.columns.length) (h : ¬ m + 1 < k) : swapOk (part x k) m = false := by
  unfold swapOk
  rw [part_len x hk]
  simp [h]
theorem part_fair {x : Input} {b : Int} {k : Nat} (h : fairP x b) : fairP (part x k) b := by
  have hc := fair_cols h
  obtain ⟨⟨h1, h2⟩, h3, h4⟩ := h
  have hl : (part x k).columns.length ≤ x.columns.length := by simp [part]; omega
  have hi : (part x k).insert = x.insert := rfl
  refine ⟨⟨by omega, by rw [hi]; exact h2⟩, ?_, h4⟩
  rw [hi]
  have hs : (part x k).swap = x.swap := rfl
  rw [hs]
  have : colsV (part x k).columns x.insert.length := by
    intro i hil
    refine hc _ ?_
    have : (part x k).columns.getD i default ∈ (part x k).columns := by simp only [List.getD, List.getElem?_eq_getElem hil, Option.getD_some]; exact List.getElem_mem hil
    exact List.mem_of_mem_take this
  intro hor
  rcases hor with e | e | e | e | e | e
  · exact h3 (.inl e)
  · exact h3 (.inr (.inl (by omega)))
  · exact h3 (.inr (.inr (.inl e)))
  · exact h3 (.inr (.inr (.inr (.inl e))))
  · exact h3 (.inr (.inr (.inr (.inr (.inl e)))))
  · exact e this

/-- The candidates of the specification. -/
def refC (x : Input) : List Arc := ft (rI x) 0 (x.columns.length + 1) ++ ft (iI x) 0 (x.columns.length + 1)
theorem refArcs_iff (x : Input) (a : Arc) : a ∈ refArcs x ↔ ((refC x).filter (pK a)).foldl (stepK a) none = some a := by
  rw [mem_find (sorted_keys (refArcs_sorted x)) a]
  unfold refArcs
  rw [← putAll_append, putAll_find _ _ List.Pairwise.nil, fold_filter]
  rfl
abbrev b11 : DM.Spec := g11
theorem ok7b : EnvOk Try.prog (envOf [(10, g10), (11, g11), (12, g12), (23, b23)]) := by
  refine EnvOk.cons (EnvOk.cons (EnvOk.cons (EnvOk.cons EnvOk.nil ?_) ?_) ?_) ?_
  · rintro ts ⟨a, b, rfl, h⟩
    exact ⟨by simpa using t23 a b h, fun _ => rfl⟩
  · rintro ts ⟨x, k, rfl, h⟩
    exact ⟨by simpa using fair_build h, fun h => by cases h⟩
  · rintro ts ⟨x, k, rfl⟩
    exact ⟨by simpa using t11 x k, fun _ => rfl⟩
  · rintro ts rfl
    exact ⟨t10, fun _ => rfl⟩
/-- Does the arc end at or before the boundary? -/
def upto (k : Nat) (a : Arc) : Bool := !decide (a.t > 2 * k ∨ a.t = 2 * k - 1)
theorem part_cands (x : Input) {k : Nat} (hk : k ≤ x.columns.length) (a : Arc) (ha : upto k a = true) : (refC x).filter (pK a) = (refC (part x k)).filter (pK a) := by
  have hu : a.t ≤ 2 * k ∧ a.t ≠ 2 * k - 1 := by
    unfold upto at ha
    simp only [Bool.not_eq_true', decide_eq_false_iff_not] at ha
    omega
  unfold refC
  rw [List.filter_append, List.filter_append, part_len x hk]
  have hins : (part x k).insert = x.insert := rfl
  -- past the boundary there is nothing
  have past : ∀ (f : Nat → List Arc) (i : Nat), (∀ b ∈ f i, b.t > 2 * k) → (f i).filter (pK a) = [] := fun f i h => filter_none fun b hb => pK_key fun e => by
    have := h b hb; omega
  have rM_t : ∀ i m b, b ∈ rM x i m → b.t ≥ 2 * m + 1 := fun i m b h => by have := (rM_f h).2; omega
  have rI_t : ∀ i b, b ∈ rI x i → b.t ≥ 2 * i + 1 := fun i b h => by
    unfold rI at h
    rw [List.mem_append] at h
    rcases h with h | h
    · obtain ⟨m, h1, _, h⟩ := mem_ft h
      have := rM_t i m b h; omega
    · obtain ⟨_, rfl⟩ := mem_rT h
      simp only; omega
  have iI_t : ∀ i b, b ∈ iI x i → b.t ≥ 2 * i := fun i b h => by
    unfold iI at h
    obtain ⟨m, h1, _, h⟩ := mem_ft h
    have := (iM_f h).2; omega
  congr 1
  · rw [filter_ft_cut (m := k + 1) (by omega) (by omega) fun i hi => past _ i fun b hb => by have := rI_t i b hb; omega]
    refine filter_ft_congr fun i _ hi => ?_
    unfold rI
    rw [List.filter_append, List.filter_append, part_len x hk]
    congr 1
    · rw [filter_ft_cut (m := k + 1) (by omega) (by omega) fun m hm => past _ m fun b hb => by have := rM_t i m b hb; omega]
      refine filter_ft_congr fun m him hm => ?_
      unfold rM
      rw [List.filter_append, List.filter_append, hins]
      congr 1
      · refine filter_ft_congr fun t _ _ => ?_
        by_cases hmk : m < k
        · have : rA (part x k) i m t = rA x i m t := by
            unfold rA readAt
            rw [part_len x hk, part_col x hmk, part_del x (by omega)]
            have : m < x.columns.length := by omega
            simp [hmk, this]
          rw [this]
        · have e : rA (part x k) i m t = [] := by unfold rA; rw [part_len x hk, if_neg (fun e => hmk e.1)]
          rw [e]
          exact filter_none fun b hb => pK_key fun e => by have := (mem_rA hb).2.2.1; omega
      · by_cases hmk : m + 1 < k
        · have : rS (part x k) i m = rS x i m := by
            unfold rS
            rw [part_swap x hk hmk, part_col x hmk, part_del x (by omega)]
            rfl
          rw [this]
        · have e : rS (part x k) i m = [] := by unfold rS; rw [part_swap_no x hk hmk]; rfl
          rw [e]
          exact filter_none fun b hb => pK_key fun e => by have := (mem_rS hb).2.2; omega
    · by_cases hik : i + 1 < k
      · have : rT (part x k) i = rT x i := by
          unfold rT
          rw [part_swap x hk hik, part_col x (by omega)]
        rw [this]
      · have e : rT (part x k) i = [] := by unfold rT; rw [part_swap_no x hk hik]; rfl
        rw [e]
        exact filter_none fun b hb => pK_key fun e => by
          obtain ⟨_, rfl⟩ := mem_rT hb
          simp only at e; omega
  · rw [filter_ft_cut (m := k + 1) (by omega) (by omega) fun i hi => past _ i fun b hb => by have := iI_t i b hb; omega]
    refine filter_ft_congr fun i _ hi => ?_
    unfold iI
    rw [part_len x hk]
    rw [filter_ft_cut (m := k + 1) (by omega) (by omega) fun m hm => past _ m fun b hb => by have := (iM_f hb).2; omega]
    refine filter_ft_congr fun m him hm => ?_
    unfold iM
    rw [hins]
    refine filter_ft_congr fun t _ _ => ?_
    unfold iT
    rw [part_del x (by omega), hins]
theorem part_upto (x : Input) {k : Nat} (hk : k ≤ x.columns.length) : ∀ a ∈ refArcs (part x k), upto k a = true := by
  intro a ha
  obtain ⟨hm, _⟩ := refArcs_mem ha
  unfold upto
  simp only [Bool.not_eq_true', decide_eq_false_iff_not]
  rw [part_len x hk] at hm
  have sw : ∀ m, swapOk (part x k) m = true → m + 1 < k := fun m h => by
    unfold swapOk at h
    rw [decide_eq_true_eq, part_len x hk] at h
    exact h.1
  rcases hm with hm | hm
  · obtain ⟨i, _, hi, hm⟩ := mem_ft hm
    unfold rI at hm
    rw [part_len x hk, List.mem_append] at hm
    rcases hm with hm | hm
    · obtain ⟨m, _, hmk, hm⟩ := mem_ft hm
      unfold rM at hm
      rw [List.mem_append] at hm
      rcases hm with hm | hm
      · obtain ⟨t, _, _, hm⟩ := mem_ft hm
        have := mem_rA hm
        rw [part_len x hk] at this
        omega
      · have := mem_rS hm
        have := sw m this.1
        omega
    · obtain ⟨h1, rfl⟩ := mem_rT hm
      have := sw i h1
      simp only; omega
  · obtain ⟨i, _, hi, hm⟩ := mem_ft hm
    unfold iI at hm
    rw [part_len x hk] at hm
    obtain ⟨m, _, hmk, hm⟩ := mem_ft hm
    have := (iM_f hm).2
    omega
theorem part_arcs (x : Input) {k : Nat} (hk : k ≤ x.columns.length) : (refArcs x).filter (upto k) = refArcs (part x k) := by
  refine sorted_ext ((refArcs_sorted x).filter _) (refArcs_sorted _) fun a => ?_
  rw [List.mem_filter]
  constructor
  · rintro ⟨h1, h2⟩
    rw [refArcs_iff] at h1 ⊢
    rw [← part_cands x hk a h2]; exact h1
  · intro h
    have h2 := part_upto x hk a h
    refine ⟨?_, h2⟩
    rw [refArcs_iff] at h ⊢
    rw [part_cands x hk a h2]; exact h

theorem upto_step (p : Arc → Bool) {l : List Arc} {y : Nat} {a : Arc} (h : y < l.length) (ha : l.getD y default = a) : ((l.take (y + 1)).filter p).length = ((l.take y).filter p).length + (if p a = true then 1 else 0) := by
  rw [List.take_add_one, List.getElem?_eq_getElem h]
  have : l[y] = a := by simpa [List.getD, h] using ha
  rw [this, List.filter_append, List.length_append]
  simp only [Option.toList_some, List.filter_cons, List.filter_nil]
  split <;> simp
theorem upto_get (p : Arc → Bool) {l : List Arc} {y : Nat} {a : Arc} (h : y < l.length) (ha : l.getD y default = a) (hp : p a = true) : ((l.take y).filter p).length < (l.filter p).length ∧ (l.filter p).getD ((l.take y).filter p).length default = a := by
  have e : l[y] = a := by simpa [List.getD, h] using ha
  have hd : l.drop y = a :: l.drop (y + 1) := by rw [List.drop_eq_getElem_cons h, e]
  have hs : l.filter p = (l.take y).filter p ++ (a :: (l.drop (y + 1)).filter p) := by
    conv => lhs; rw [← List.take_append_drop y l, List.filter_append, hd, List.filter_cons, if_pos hp]
  rw [hs]
  simp [List.getD]
set_option maxRecDepth 20000 in
set_option maxHeartbeats 4000000 in
theorem t7 (x : Input) (c : Int) (hc0 : 0 ≤ c) (hc1 : c ≤ 255) : CallsOk Try.prog 7 [x.enc, .int .u8 c] (.bool true) := by
  have hΓ := ok7b
  obtain ⟨cols, ins, sw⟩ := x
  obtain ⟨xt, hxt⟩ : ∃ t, (⟨cols, ins, sw⟩ : Input).enc = t := ⟨_, rfl⟩
  have hxe : T.agg [.sl (colsT cols), .sl (intsT ins), ti sw] = xt := hxt
  have hxd : decX xt = ⟨cols, ins, sw⟩ := by rw [← hxt]; simp
  refine c7.ok (by simp) (initSt_sat ?_)
  simp [Input.enc]
  refine SatD.regSeq hΓ follows [1, 2] ?_
  simp [d7r0]
  refine SatD.le (Le.keep (o := []) (l := [(1, .v (.int .u8 c)), (2, .v (.box [.sl (colsT cols), .sl (intsT ins), ti sw]))]) (nxt' := 1200) ?_ ?_ ?_ ?_) ?_
  · simp
  · simp
  · simp
  · simp
  refine SatD.seq ?_
  refine SatD.regSeq hΓ follows [1, 2, 13] ?_
  simp [d7r1]
  refine SatD.cond rfl (fun hcc => by cases hcc) (fun hcc => ?_)
  refine SatD.skip ?_
  simp
  refine SatD.seq ?_
  refine SatD.regSeq hΓ follows [1, 2, 16] ?_
  simp [d7r3, hxe, hxd]
  refine ⟨⟨_, hxt.symm⟩, ?_⟩
  refine SatD.cond rfl (fun hf => ?_) (fun hf => ?_)
  · simp at hf
    refine SatD.regSeq hΓ follows [4] ?_
    simp [d7r4]
    refine SatD.ret ?_
    simp [d7res]
  · simp at hf
    refine SatD.skip ?_
    simp
    obtain ⟨n, hn⟩ : ∃ n, cols.length = n := ⟨_, rfl⟩
    have hn8 : n ≤ 60 := by have := (fair_ok hf).2.1; simp only at this; omega
    obtain ⟨c0, rfl⟩ := Int.eq_ofNat_of_zero_le hc0
    have w1 : IntKind.i64.wrap (c0 : Int) = c0 := wrap_id (by omega)
    have w2 : IntKind.i64.wrap ((n : Int) + 1) = ((n + 1 : Nat) : Int) := by rw [wrap_id (by omega)]; omega
    obtain ⟨n1, hn1⟩ : ∃ n1, n + 1 = n1 := ⟨_, rfl⟩
    rw [hn1] at w2
    obtain ⟨k, hk⟩ : ∃ k, c0 % n1 = k := ⟨_, rfl⟩
    have hkn : k ≤ n := by have := Nat.mod_lt c0 (show 0 < n1 by omega); omega
    have w3 : (c0 : Int).tmod (n1 : Int) = (k : Int) := by rw [Int.tmod_eq_emod_of_nonneg (by omega), ← hk]; omega
    have hn1z : n1 ≠ 0 := by omega
    refine SatD.regSeq hΓ follows [2, 5] ?_
    simp [d7r5, hn, w1, w2, w3, hn1z]
    refine SatD.regSeq hΓ follows [2, 5, 6] ?_
    simp [d7r6]
    refine SatD.regSeq hΓ follows [2, 5, 6] ?_
    simp [d7r7, hn, hkn]
    refine ⟨fun r hr => by obtain ⟨q, _, rfl⟩ := List.mem_map.1 hr; rfl, ?_⟩
    rw [show (T.sl (List.take k (colsT cols))) = .sl (colsT (cols.take k)) by simp [colsT, List.map_take]]
    refine SatD.le (Le.keep (o := []) (l := [(2, .v (.box [.sl (colsT cols), .sl (intsT ins), ti sw])), (5, .v (ti k)), (6, .v (.box [.sl (colsT (cols.take k)), .sl (intsT ins), ti sw]))]) (nxt' := 2200) ?_ ?_ ?_ ?_) ?_
    · simp
    · simp
    · simp
    · simp
    have hv := fair_lens hf
    have hpa := part_arcs ⟨cols, ins, sw⟩ (k := k) (by simp only; omega)
    have hpf := part_fair (k := k) hf
    have hvp := fair_lens hpf
    have hps : (refBuildL (part ⟨cols, ins, sw⟩ k)).arcs = refArcs (part ⟨cols, ins, sw⟩ k) := rfl
    have hxs : (refBuildL ⟨cols, ins, sw⟩).arcs = refArcs ⟨cols, ins, sw⟩ := rfl
    obtain ⟨l, hl⟩ : ∃ l, refBuildL ⟨cols, ins, sw⟩ = l := ⟨_, rfl⟩
    obtain ⟨lp, hlp⟩ : ∃ l, refBuildL (part ⟨cols, ins, sw⟩ k) = l := ⟨_, rfl⟩
    rw [hl] at hv hxs
    rw [hlp] at hps hvp
    obtain ⟨s0, arcs, fin⟩ := l
    obtain ⟨s1, arcp, finp⟩ := lp
    simp only at hps hxs hv hvp
    rw [← hxs, ← hps] at hpa
    obtain ⟨pt, hpt⟩ : ∃ t, (part ⟨cols, ins, sw⟩ k).enc = t := ⟨_, rfl⟩
    have hpe : T.agg [.sl (colsT (cols.take k)), .sl (intsT ins), ti sw] = pt := hpt
    have hpd : decX pt = part ⟨cols, ins, sw⟩ k := by rw [← hpt]; simp
    refine SatD.regSeq hΓ follows [5, 6, 7] ?_
    simp [d7r8, hxe, hxd, hl, Lattice.enc]
    refine ⟨⟨_, hxt.symm, 8, hf⟩, ?_⟩
    refine SatD.regSeq hΓ follows [5, 7, 8] ?_
    simp [d7r9, hpe, hpd, hlp, Lattice.enc]
    refine ⟨⟨_, hpt.symm, 8, hpf⟩, ?_⟩
    refine SatD.le (Le.keep (o := []) (l := [(5, .v (ti k)), (7, .v (.box [ti s0, .sl (arcsT arcs), .sl (intsT fin)])), (8, .v (.box [ti s1, .sl (arcsT arcp), .sl (intsT finp)]))]) (nxt' := 3000) ?_ ?_ ?_ ?_) ?_
    · simp
    · simp
    · simp
    · simp
    refine SatD.regSeq hΓ follows [5, 7, 8, 9] ?_
    simp [d7r10]
    refine SatD.seq ?_
    refine SatD.regSeq hΓ follows [5, 7, 8, 9, 10] ?_
    simp [d7r11]
    refine SatD.block ?_
    refine SatD.loop (fun y : Nat => ⟨DM.look [(5, .v (ti k)), (7, .v (.box [ti s0, .sl (arcsT arcs), .sl (intsT fin)])), (8, .v (.box [ti s1, .sl (arcsT arcp), .sl (intsT finp)])), (9, .v (ti ((arcs.take y).filter (upto k)).length)), (10, .v (ti y))], obs [], 4000, 1000, []⟩)
      (fun y => y ≤ arcs.length) (fun y => arcs.length - y) 0 (Le.keep (o := []) ?_ ?_ ?_ ?_) (by simp) (fun y hy => ?_)
    · simp
    · simp
    · simp
    · simp
    have hle : ((arcs.take y).filter (upto k)).length ≤ y := Nat.le_trans (List.length_filter_le _ _) (by simp; omega)
    obtain ⟨q, hq⟩ : ∃ q, ((arcs.take y).filter (upto k)).length = q := ⟨_, rfl⟩
    rw [hq] at hle ⊢
    have hal := hv.2.1
    have w6 : IntKind.i64.wrap ((q : Int) + 1) = (q : Int) + 1 := wrap_id (by omega)
    refine SatD.seq ?_
    refine SatD.regSeq hΓ follows [5, 7, 8, 9, 10, 38] ?_
    simp [d7r12]
    refine SatD.cond rfl (fun hcc => ?_) (fun hcc => ?_)
    · simp at hcc
      have r1 := rowAt_arcs hcc
      obtain ⟨a, ha⟩ : ∃ a, arcs.getD y default = a := ⟨_, rfl⟩
      rw [ha] at r1
      have hsp := upto_step (upto k) hcc ha
      rw [hq] at hsp
      obtain ⟨af, at', ax, ac, ao⟩ := a
      refine SatD.skip ?_
      simp
      refine SatD.seq ?_
      refine SatD.block ?_
      refine SatD.regSeq hΓ follows [5, 7, 8, 9, 10, 11] ?_
      simp [d7r13, r1, hcc, Arc.enc]
      refine SatD.le (Le.keep (o := []) (l := [(5, .v (ti k)), (7, .v (.box [ti s0, .sl (arcsT arcs), .sl (intsT fin)])), (8, .v (.box [ti s1, .sl (arcsT arcp), .sl (intsT finp)])), (9, .v (ti q)), (10, .v (ti y)), (11, .v (.box [ti af, ti at', ti ax, ti ac, .sl (opsT ao)]))]) (nxt' := 5000) ?_ ?_ ?_ ?_) ?_
      · simp
      · simp
      · simp
      · simp
      refine SatD.seq ?_
      have w4 : IntKind.i64.wrap (2 * (k : Int)) = 2 * k := wrap_id (by omega)
      have w5 : IntKind.i64.wrap (2 * (k : Int) - 1) = 2 * k - 1 := wrap_id (by omega)
      refine SatD.regToS hΓ follows [(5, .v (ti k)), (7, .v (.box [ti s0, .sl (arcsT arcs), .sl (intsT fin)])), (8, .v (.box [ti s1, .sl (arcsT arcp), .sl (intsT finp)])), (9, .v (ti q)), (10, .v (ti y)), (11, .v (.box [ti af, ti at', ti ax, ti ac, .sl (opsT ao)])), (58, .v (.bool (decide (at' > 2 * k ∨ at' = 2 * k - 1))))] ?_ ?_
      · by_cases q1 : 2 * (k : Int) < at'
        · simp [d7r14, w4, w5, q1]
        · by_cases q2 : at' = 2 * k - 1
          · simp [d7r14, w4, w5, q1, q2]
          · simp [d7r14, w4, w5, q1, q2]
      refine SatD.cond rfl (fun h58 => ?_) (fun h58 => ?_)
      · have hu : upto k ⟨af, at', ax, ac, ao⟩ = false := by unfold upto; rw [h58]; rfl
        rw [if_neg (by rw [hu]; simp)] at hsp
        refine SatD.exit ?_
        simp
        refine SatD.reg hΓ follows [5, 7, 8, 9, 10] ?_
        simp [d7r18]
        rw [wrap_id (by omega)]
        refine ⟨y + 1, Le.keep (o := []) ?_ ?_ ?_ ?_, by omega, by omega⟩
        · simp
        · simp
        · simp
        · simp [hsp]
      · have hu : upto k ⟨af, at', ax, ac, ao⟩ = true := by unfold upto; rw [h58]; rfl
        rw [if_pos hu] at hsp
        have hpq := upto_get (upto k) hcc ha hu
        rw [hq, hpa] at hpq
        obtain ⟨hq2, hpq⟩ := hpq
        have r2 := rowAt_arcs hq2
        rw [hpq] at r2
        have hao : ao.length ≤ 1000000000 := hv.2.2 ⟨af, at', ax, ac, ao⟩ (by rw [← ha]; simp only [List.getD, List.getElem?_eq_getElem hcc, Option.getD_some]; exact List.getElem_mem hcc)
        refine SatD.skip ?_
        simp
        refine SatD.seq ?_
        refine SatD.regToS hΓ follows [(5, .v (ti k)), (7, .v (.box [ti s0, .sl (arcsT arcs), .sl (intsT fin)])), (8, .v (.box [ti s1, .sl (arcsT arcp), .sl (intsT finp)])), (9, .v (ti q)), (10, .v (ti y)), (73, .v (.bool false))] ?_ ?_
        · have q3 : ¬ (arcp.length ≤ q) := by omega
          simp [d7r15, hq2, r2, Arc.enc, q3]
          refine ⟨⟨af, at', ax, ac, ao⟩, ⟨⟨rfl, rfl, rfl, rfl, rfl⟩, ⟨⟨af, at', ax, ac, ao⟩, ⟨rfl, rfl, rfl, rfl, rfl⟩⟩⟩, by simp only; omega⟩
        refine SatD.cond rfl (fun h73 => by cases h73) (fun h73 => ?_)
        refine SatD.skip ?_
        simp
        refine SatD.reg hΓ follows [5, 7, 8, 9, 10] ?_
        simp [d7r17, w6]
        refine SatD.reg hΓ follows [5, 7, 8, 9, 10] ?_
        simp [d7r18]
        rw [wrap_id (by omega)]
        refine ⟨y + 1, Le.keep (o := []) ?_ ?_ ?_ ?_, by omega, by omega⟩
        · simp
        · simp
        · simp
        · simp [hsp]
    · simp at hcc
      refine SatD.exit ?_
      simp
      have hcy : y = arcs.length := by omega
      have hfin : q = arcp.length := by rw [← hq, hcy, List.take_length, hpa]
      refine SatD.regSeq hΓ follows [4] ?_
      simp [d7r19, hfin]
      refine SatD.ret ?_
      simp [d7res]
end Go.Proofs
/- Distances in lattices told by paths; the triangle law. Conditions: none. -/
namespace Go.Proofs
open Go.DM Go.DM.Srt
set_option linter.unusedSimpArgs false
set_option linter.unusedVariables false

/-- A path from the first state: its label, its end, its cost. -/
inductive PathTo (arcs : List Arc) : List Int → Nat → Int → Prop
  | nil : PathTo arcs [] 0 0
  | snoc {ys : List Int} {s : Nat} {c : Int} (a : Arc) : PathTo arcs ys s c → a ∈ arcs → a.f = s → PathTo arcs (ys ++ [a.term]) a.t.toNat (c + a.cost)
theorem PathTo.mono {arcs arcs' : List Arc} (h : ∀ a ∈ arcs, a ∈ arcs') {y : List Int} {s : Nat} {c : Int} (p : PathTo arcs y s c) : PathTo arcs' y s c := by
  induction p with
  | nil => exact .nil
  | snoc a p ha hf ih => exact .snoc a ih (h a ha) hf
theorem PathTo.cost {arcs : List Arc} (h : ∀ a ∈ arcs, 0 ≤ a.cost) {y : List Int} {s : Nat} {c : Int} (p : PathTo arcs y s c) : 0 ≤ c := by
  induction p with
  | nil => omega
  | snoc a p ha hf ih => have := h a ha; omega
theorem PathTo.snoc_inv {arcs : List Arc} {y : List Int} {t : Int} {s : Nat} {c : Int} (p : PathTo arcs (y ++ [t]) s c) : ∃ (a : Arc) (s' : Nat) (c' : Int), PathTo arcs y s' c' ∧ a ∈ arcs ∧ a.f = s' ∧ a.term = t ∧ a.t.toNat = s ∧ c = c' + a.cost := by
  generalize hz : y ++ [t] = z at p
  cases p with
  | nil => simp at hz
  | @snoc ys s' c' a p ha hf =>
    obtain ⟨h1, h2⟩ := List.append_inj' hz rfl
    simp at h2
    subst h1
    exact ⟨a, s', c', p, ha, hf, h2.symm, rfl, rfl⟩
theorem PathTo.nil_inv {arcs : List Arc} {s : Nat} {c : Int} (p : PathTo arcs [] s c) : s = 0 ∧ c = 0 := by
  generalize hz : ([] : List Int) = z at p
  cases p with
  | nil => exact ⟨rfl, rfl⟩
  | snoc a p ha hf => simp at hz

theorem relax_le {S : Nat} {at' nx : List Int} {t : Int} {a : Arc} (h2 : okA S nx) (ha : arcIn S a) {s : Nat} (hs : s < S) (v : Int) :
    (relax at' t nx a).getD s default ≤ v ↔ nx.getD s default ≤ v ∨ (a.term = t ∧ a.t.toNat = s ∧ at'.getD a.f.toNat default + a.cost ≤ v) := by
  unfold relax
  split
  · rename_i ht
    by_cases e : a.t.toNat = s
    · subst e
      simp only [List.getD, List.getElem?_set_self (show a.t.toNat < nx.length by rw [h2.1]; exact hs), Option.getD_some, ht, true_and]
      omega
    · simp only [List.getD, List.getElem?_set_ne e, e, false_and, and_false, or_false]
  · rename_i ht
    simp [ht]
theorem fold_le {S : Nat} {at' : List Int} {t : Int} (h1 : okA S at') {s : Nat} (hs : s < S) (v : Int) : ∀ (l : List Arc), (∀ a ∈ l, arcIn S a) → ∀ nx, okA S nx →
    ((l.foldl (relax at' t) nx).getD s default ≤ v ↔ nx.getD s default ≤ v ∨ ∃ a ∈ l, a.term = t ∧ a.t.toNat = s ∧ at'.getD a.f.toNat default + a.cost ≤ v)
  | [], _, nx, _ => by simp
  | a :: l, h, nx, hn => by
    rw [List.foldl_cons, fold_le h1 hs v l (fun b hb => h b (by simp [hb])) _ (okA_relax h1 hn (h a (by simp))), relax_le hn (h a (by simp)) hs v]
    simp only [List.mem_cons, exists_eq_or_imp, or_assoc]
theorem nxN_le {S : Nat} {arcs : List Arc} {at' : List Int} {t : Int} (h1 : okA S at') (ha : ∀ a ∈ arcs, arcIn S a) {s : Nat} (hs : s < S) (v : Int) :
    (nxN arcs S at' t arcs.length).getD s default ≤ v ↔ 1099511627776 ≤ v ∨ ∃ a ∈ arcs, a.term = t ∧ a.t.toNat = s ∧ at'.getD a.f.toNat default + a.cost ≤ v := by
  unfold nxN
  rw [List.take_length, fold_le h1 hs v arcs ha _ (okA_rep S)]
  simp [List.getD, hs]
theorem atN_le {S : Nat} {arcs : List Arc} {y : List Int} (ha : ∀ a ∈ arcs, arcIn S a) {v : Int} (hv : v < 1099511627776) : ∀ (j : Nat), j ≤ y.length → ∀ s, s < S →
    ((atN arcs S y j).getD s default ≤ v ↔ ∃ c, c ≤ v ∧ PathTo arcs (y.take j) s c) := by
  have hcost : ∀ a ∈ arcs, 0 ≤ a.cost := fun a h => (ha a h).2.2.2.2.1
  intro j
  induction j generalizing v with
  | zero =>
    intro _ s hs
    have e : atN arcs S y 0 = at0 S := rfl
    rw [e, List.take_zero]
    unfold at0
    by_cases h0 : s = 0
    · subst h0
      simp only [List.getD, List.getElem?_set_self (show 0 < (List.replicate S (1099511627776 : Int)).length by simpa using hs), Option.getD_some]
      constructor
      · intro h; exact ⟨0, h, .nil⟩
      · rintro ⟨c, hc, p⟩; have := p.nil_inv; omega
    · simp only [List.getD, List.getElem?_set_ne (Ne.symm h0), List.getElem?_replicate, hs, if_true, Option.getD_some]
      constructor
      · intro h; omega
      · rintro ⟨c, hc, p⟩; exact absurd p.nil_inv.1 h0
  | succ j ih =>
    intro hj s hs
    have hjl : j < y.length := by omega
    rw [atN_succ hjl, nxN_le (okA_atN ha j) ha hs]
    have ht : y.take (j + 1) = y.take j ++ [y.getD j default] := by
      rw [List.take_add_one, List.getElem?_eq_getElem hjl]; simp [List.getD, hjl]
    rw [ht]
    constructor
    · rintro (h | ⟨a, h1, h2, h3, h4⟩)
      · omega
      · have hin := ha a h1
        have hc := hcost a h1
        obtain ⟨c, hc2, p⟩ := (ih (v := v - a.cost) (by omega) (by omega) a.f.toNat (by have := hin.2.1; have := hin.1; omega)).1 (by omega)
        refine ⟨c + a.cost, by omega, ?_⟩
        rw [← h2, ← h3]
        exact .snoc a p h1 (by have := hin.1; omega)
    · rintro ⟨c, hc, p⟩
      obtain ⟨a, s', c', p', h1, h2, h3, h4, rfl⟩ := p.snoc_inv
      right
      refine ⟨a, h1, h3, h4, ?_⟩
      have hin := ha a h1
      have hcst := hcost a h1
      have hs' : s' < S := by have := hin.2.1; omega
      have := (ih (v := v - a.cost) (by omega) (by omega) s' hs').2 ⟨c', by omega, p'⟩
      rw [show a.f.toNat = s' by omega]
      omega
theorem best_le {at' fin : List Int} {v : Int} (hv : v < 1099511627776) : ∀ n, bestN at' fin n ≤ v ↔ ∃ s, s < n ∧ at'.getD s default + fin.getD s default ≤ v
  | 0 => by
    show (1099511627776 : Int) ≤ v ↔ _
    constructor
    · intro h; omega
    · rintro ⟨s, h, _⟩; omega
  | n + 1 => by
    rw [bestN_succ]
    have := best_le (at' := at') (fin := fin) hv n
    constructor
    · intro h
      by_cases h1 : bestN at' fin n ≤ v
      · obtain ⟨s, h2, h3⟩ := this.1 h1
        exact ⟨s, by omega, h3⟩
      · exact ⟨n, by omega, by omega⟩
    · rintro ⟨s, h1, h2⟩
      by_cases e : s = n
      · subst e; omega
      · have := this.2 ⟨s, by omega, h2⟩
        omega
theorem best_top (at' fin : List Int) : ∀ n, bestN at' fin n ≤ 1099511627776
  | 0 => Int.le_refl _
  | n + 1 => by rw [bestN_succ]; have := best_top at' fin n; omega
/-- The distance told by paths. -/
theorem dist_le {l : Lattice} {y : List Int} (ha : ∀ a ∈ l.arcs, arcIn l.final.length a) (hf : ∀ s, s < l.final.length → 0 ≤ l.final.getD s default) {v : Int} (hv : v < 1099511627776) :
    distL l y ≤ v ↔ ∃ s c, s < l.final.length ∧ PathTo l.arcs y s c ∧ c + l.final.getD s default ≤ v := by
  unfold distL
  rw [best_le hv]
  constructor
  · rintro ⟨s, hs, h⟩
    have := hf s hs
    obtain ⟨c, hc, p⟩ := (atN_le ha (v := v - l.final.getD s default) (by omega) y.length (Nat.le_refl _) s hs).1 (by omega)
    rw [List.take_length] at p
    exact ⟨s, c, hs, p, by omega⟩
  · rintro ⟨s, c, hs, p, h⟩
    have := hf s hs
    have := (atN_le (y := y) ha (v := v - l.final.getD s default) (by omega) y.length (Nat.le_refl _) s hs).2 ⟨c, by omega, by rwa [List.take_length]⟩
    exact ⟨s, hs, by omega⟩
theorem dist_top (l : Lattice) (y : List Int) : distL l y ≤ 1099511627776 := best_top _ _ _
theorem dist_nn {l : Lattice} {y : List Int} (ha : ∀ a ∈ l.arcs, arcIn l.final.length a) (hf : ∀ s, s < l.final.length → 0 ≤ l.final.getD s default) : 0 ≤ distL l y := by
  by_cases h : distL l y ≤ -1
  · obtain ⟨s, c, hs, p, h2⟩ := (dist_le ha hf (by omega)).1 h
    have := p.cost fun a h => (ha a h).2.2.2.2.1
    have := hf s hs
    omega
  · omega
theorem valid_fin {l : Lattice} {terms : Int} (h : validP l terms) : ∀ s, s < l.final.length → 0 ≤ l.final.getD s default := fun s hs => (h.2.1 s hs).1

theorem ref_fin (x : Input) {s : Nat} (hs : s < 2 * x.columns.length + 1) : (refBuildL x).final.getD s default = if s % 2 = 0 then delC x (s / 2) x.columns.length else 1099511627776 := by
  simp [refBuildL, refFin, List.getD, hs]
theorem delC_snoc (x : Input) {i m : Nat} (h : i ≤ m) (hm : m < x.columns.length) : delC x i (m + 1) = min (delC x i m + (x.columns.getD m default).delete) 1099511627776 := by
  unfold delC
  have e : (x.columns.take (m + 1)).drop i = (x.columns.take m).drop i ++ [x.columns.getD m default] := by
    rw [List.take_add_one, List.getElem?_eq_getElem hm, List.drop_append_of_le_length (by simp; omega)]
    simp [List.getD, hm]
  rw [e, delCost_snoc]
/-- One token more makes a label at most as much dearer as it costs to delete it. -/
theorem triangle {x : Input} {b : Int} (hf : fairP x b) {n : Nat} (hn : x.columns.length = n + 1) (y : List Int) {d : Int} (hd : (x.columns.getD n default).delete = d) (hd0 : d < 1099511627776) :
    distL (refBuildL x) y ≤ distL (refBuildL (part x n)) y + d := by
  obtain ⟨g1, g2, g3, g4⟩ := fair_ok hf
  have hv := ref_valid hf
  have hpf : fairP (part x n) b := part_fair hf
  have hvp := ref_valid hpf
  have hfl : (refBuildL x).final.length = 2 * x.columns.length + 1 := refFin_len x _
  have hpl : (part x n).columns.length = n := part_len x (by omega)
  have hflp : (refBuildL (part x n)).final.length = 2 * n + 1 := by show (refFin (part x n) _).length = _; rw [refFin_len, hpl]
  have hdn : 0 ≤ d := by
    have := (g1.1.2 (x.columns.getD n default) (by simp [List.getD, hn])).1
    omega
  have hnn := dist_nn (y := y) (valid_arcs hvp) (valid_fin hvp)
  by_cases hlt : distL (refBuildL (part x n)) y + d < 1099511627776
  · obtain ⟨s, c, hs, p, h⟩ := (dist_le (v := distL (refBuildL (part x n)) y) (valid_arcs hvp) (valid_fin hvp) (by omega)).1 (Int.le_refl _)
    refine (dist_le (valid_arcs hv) (valid_fin hv) hlt).2 ⟨s, c, by omega, ?_, ?_⟩
    · refine p.mono fun a ha => ?_
      have : a ∈ (refArcs x).filter (upto n) := by rw [part_arcs x (by omega)]; exact ha
      exact (List.mem_filter.1 this).1
    · rw [hflp] at hs
      rw [ref_fin _ (by rw [hpl]; exact hs), hpl] at h
      rw [ref_fin _ (by omega)]
      split
      · rename_i he
        rw [if_pos he, part_del x (Nat.le_refl n)] at h
        rw [hn, delC_snoc x (by omega) (by omega), hd]
        omega
      · rename_i he
        rw [if_neg he] at h
        have := p.cost fun a h => ((valid_arcs hvp) a h).2.2.2.2.1
        omega
  · have := dist_top (refBuildL x) y
    omega

theorem ok8b : EnvOk Try.prog (envOf [(10, g10), (11, g11), (12, g12), (17, g17), (18, gD)]) := by
  refine EnvOk.cons (EnvOk.cons (EnvOk.cons (EnvOk.cons (EnvOk.cons EnvOk.nil ?_) ?_) ?_) ?_) ?_
  · rintro ts ⟨l, y, t, rfl, h1, h2, h3⟩
    exact ⟨by simpa using t18 l y t h1 h2.1 h2.2 h3, fun _ => rfl⟩
  · rintro ts ⟨y, t, rfl, h⟩
    exact ⟨by simpa using t17 y t (by omega), fun _ => rfl⟩
  · rintro ts ⟨x, k, rfl, h⟩
    exact ⟨by simpa using fair_build h, fun h => by cases h⟩
  · rintro ts ⟨x, k, rfl⟩
    exact ⟨by simpa using t11 x k, fun _ => rfl⟩
  · rintro ts rfl
    exact ⟨t10, fun _ => rfl⟩

set_option maxRecDepth 20000 in
set_option maxHeartbeats 4000000 in
theorem t8 (x : Input) (y : List Int) (hy : y.length ≤ 9223372036854775807) : CallsOk Try.prog 8 [x.enc, .sl (intsT y)] (.bool true) := by
  have hΓ := ok8b
  obtain ⟨cols, ins, sw⟩ := x
  obtain ⟨xt, hxt⟩ : ∃ t, (⟨cols, ins, sw⟩ : Input).enc = t := ⟨_, rfl⟩
  have hxe : T.agg [.sl (colsT cols), .sl (intsT ins), ti sw] = xt := hxt
  have hxd : decX xt = ⟨cols, ins, sw⟩ := by rw [← hxt]; simp
  refine c8.ok (by simp) (initSt_sat ?_)
  simp [Input.enc]
  refine SatD.regSeq hΓ follows [1, 2] ?_
  simp [d8r0]
  refine SatD.le (Le.keep (o := []) (l := [(1, .v (.sl (intsT y))), (2, .v (.box [.sl (colsT cols), .sl (intsT ins), ti sw]))]) (nxt' := 1200) ?_ ?_ ?_ ?_) ?_
  · simp
  · simp
  · simp
  · simp
  refine SatD.seq ?_
  refine SatD.regSeq hΓ follows [1, 2, 8] ?_
  simp [d8r1]
  refine SatD.cond rfl (fun hcc => by cases hcc) (fun hcc => ?_)
  refine SatD.skip ?_
  simp
  refine SatD.seq ?_
  obtain ⟨c1, hc1⟩ : ∃ c : Bool, decide (¬ fairP ⟨cols, ins, sw⟩ 6 ∨ cols.length = 0 ∨ 6 < (y.length : Int) ∨ ¬ belowP y ins.length) = c := ⟨_, rfl⟩
  refine SatD.regToS hΓ follows [(1, .v (.sl (intsT y))), (2, .v (.box [.sl (colsT cols), .sl (intsT ins), ti sw])), (30, .v (.bool c1))] ?_ ?_
  · by_cases q1 : fairP ⟨cols, ins, sw⟩ 6
    · by_cases q2 : cols.length = 0
      · have : c1 = true := by rw [← hc1]; simp [q2]
        have q2' : cols = [] := List.length_eq_zero_iff.1 q2
        simp [d8r3, hxe, hxd, q1, q2, q2', this]
        exact ⟨⟨[], ins, sw⟩, rfl⟩
      · by_cases q3 : 6 < (y.length : Int)
        · have : c1 = true := by rw [← hc1]; simp [q3]
          have q2' : ¬ cols = [] := fun e => q2 (by rw [e]; rfl)
          simp [d8r3, hxe, hxd, q1, q2, q2', q3, this]
          exact ⟨_, hxt.symm⟩
        · have q2' : ¬ cols = [] := fun e => q2 (by rw [e]; rfl)
          by_cases q4 : belowP y ins.length
          · have : c1 = false := by rw [← hc1]; simp only [decide_eq_false_iff_not]; rintro (h | h | h | h) <;> contradiction
            simp [d8r3, hxe, hxd, q1, q2, q2', q3, q4, this]
            exact ⟨⟨_, hxt.symm⟩, y, rfl, by omega⟩
          · have : c1 = true := by rw [← hc1]; simp [q4]
            simp [d8r3, hxe, hxd, q1, q2, q2', q3, q4, this]
            exact ⟨⟨_, hxt.symm⟩, y, rfl, by omega⟩
    · have : c1 = true := by rw [← hc1]; simp [q1]
      simp [d8r3, hxe, hxd, q1, this]
      exact ⟨_, hxt.symm⟩
  refine SatD.cond rfl (fun h1 => ?_) (fun h1 => ?_)
  · skip
    refine SatD.regSeq hΓ follows [4] ?_
    simp [d8r4]
    refine SatD.ret ?_
    simp [d8res]
  · rw [h1] at hc1
    simp only [decide_eq_false_iff_not, not_or, Classical.not_not] at hc1
    obtain ⟨hf, hc0, hy6, hbl⟩ := hc1
    refine SatD.skip ?_
    simp
    obtain ⟨n, hn⟩ : ∃ n, cols.length = n + 1 := ⟨cols.length - 1, by omega⟩
    have w1 : IntKind.i64.wrap (((n + 1 : Nat) : Int) - 1) = (n : Int) := by rw [wrap_id (by have := (fair_ok hf).2.1; simp only at this; omega)]; omega
    have r1 := rowAt_cols (show n < cols.length by omega)
    obtain ⟨cc, hcc⟩ : ∃ c, cols.getD n default = c := ⟨_, rfl⟩
    rw [hcc] at r1
    obtain ⟨ck, cr, d⟩ := cc
    have w1' : IntKind.i64.wrap (n : Int) = (n : Int) := wrap_id (by have := (fair_ok hf).2.1; simp only at this; omega)
    refine SatD.regSeq hΓ follows [1, 2, 5] ?_
    simp [d8r5]
    refine SatD.regSeq hΓ follows [1, 2, 5] ?_
    simp [d8r6, hn, w1, w1']
    refine ⟨⟨by omega, fun r hr => by obtain ⟨q, _, rfl⟩ := List.mem_map.1 hr; rfl⟩, ?_⟩
    rw [show (T.sl (List.take n (colsT cols))) = .sl (colsT (cols.take n)) by simp [colsT, List.map_take]]
    refine SatD.le (Le.keep (o := []) (l := [(1, .v (.sl (intsT y))), (2, .v (.box [.sl (colsT cols), .sl (intsT ins), ti sw])), (5, .v (.box [.sl (colsT (cols.take n)), .sl (intsT ins), ti sw]))]) (nxt' := 2200) ?_ ?_ ?_ ?_) ?_
    · simp
    · simp
    · simp
    · simp
    refine SatD.regSeq hΓ follows [1, 2, 5, 6] ?_
    simp [d8r7, hn, w1, w1', r1, Column.enc]
    refine ⟨by omega, ?_⟩
    have htri := fun hd0 => triangle hf hn y (d := d) (by rw [hcc]) hd0
    have hv := ref_valid hf
    have hlo := fair_lens hf
    have hpf := part_fair (k := n) hf
    have hvp := ref_valid hpf
    have hlop := fair_lens hpf
    have hdt := dist_top (refBuildL (part ⟨cols, ins, sw⟩ n)) y
    have hdnn := dist_nn (y := y) (valid_arcs hvp) (valid_fin hvp)
    have hd0 : 0 ≤ d := by have := ((fair_ok hf).1.1.2 ⟨ck, cr, d⟩ (by rw [← hcc]; simp [List.getD, hn])).1; exact this
    obtain ⟨l, hl⟩ : ∃ l, refBuildL ⟨cols, ins, sw⟩ = l := ⟨_, rfl⟩
    obtain ⟨lp, hlp⟩ : ∃ l, refBuildL (part ⟨cols, ins, sw⟩ n) = l := ⟨_, rfl⟩
    rw [hl] at hv hlo htri
    rw [hlp] at hvp hlop hdt hdnn htri
    obtain ⟨pt, hpt⟩ : ∃ t, (part ⟨cols, ins, sw⟩ n).enc = t := ⟨_, rfl⟩
    have hpe : T.agg [.sl (colsT (cols.take n)), .sl (intsT ins), ti sw] = pt := hpt
    have hpd : decX pt = part ⟨cols, ins, sw⟩ n := by rw [← hpt]; simp
    have w2 : d < 1099511627776 → IntKind.i64.wrap (distL lp y + d) = distL lp y + d := fun h => wrap_id (by omega)
    refine SatD.regToS hΓ follows [(4, .v (.bool true))] ?_ ?_
    · by_cases q1 : 1099511627776 ≤ d
      · simp [d8r8, q1]
      · have q2 : d < 1099511627776 := by omega
        have htri := htri q2
        simp [d8r8, q1, hxe, hxd, hl, hpe, hpd, hlp, w2 q2, htri]
        exact ⟨⟨_, hxt.symm, 6, hf⟩, ⟨l, y, ⟨rfl, rfl⟩, ⟨_, hv⟩, ⟨hlo.1, hlo.2.1⟩, by omega⟩, ⟨_, hpt.symm, 6, hpf⟩, ⟨lp, y, ⟨rfl, rfl⟩, ⟨_, hvp⟩, ⟨hlop.1, hlop.2.1⟩, by omega⟩⟩
    refine SatD.ret ?_
    simp [d8res]
end Go.Proofs
