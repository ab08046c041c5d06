/- The reference's Path and Script. Conditions: none. -/
import Derived.Test.YtlimlhidndflhaaDoorLc
import Derived.Test.YtlimlhidndflhaaDoorNb
import Derived.Test.YtlimlhidndflhaaDoorNa
namespace Go.Proofs
open Go.DM
set_option linter.unusedSimpArgs false
set_option linter.unusedVariables false

def stepP (arcs : List Arc) : Option (Int × Int) → Int → Option (Int × Int)
  | none, _ => none
  | some (s, c), i => if i < 0 ∨ (arcs.length : Int) ≤ i ∨ (arcs.getD i.toNat default).f ≠ s then none else some ((arcs.getD i.toNat default).t, satA c (arcs.getD i.toNat default).cost)
def pathF (arcs : List Arc) (path : List Int) : Option (Int × Int) := path.foldl (stepP arcs) (some (0, 0))
def pathL (l : Lattice) (path : List Int) : Int × Int × Bool :=
  match pathF l.arcs path with
  | none => (0, 0, false)
  | some (s, c) => if 1099511627776 ≤ l.final.getD s.toNat default then (0, 0, false) else (s, satA c (l.final.getD s.toNat default), true)
theorem foldP_none (arcs : List Arc) (l : List Int) : l.foldl (stepP arcs) none = none := by
  induction l with
  | nil => rfl
  | cons i l ih => exact ih
theorem pathF_succ {arcs : List Arc} {path : List Int} {j : Nat} (h : j < path.length) : pathF arcs (path.take (j + 1)) = stepP arcs (pathF arcs (path.take j)) (path.getD j default) := by
  unfold pathF
  rw [List.take_add_one, List.getElem?_eq_getElem h, List.foldl_append]
  simp [List.getD, h]
theorem pathF_none {arcs : List Arc} {path : List Int} {j : Nat} (h : pathF arcs (path.take j) = none) : pathF arcs path = none := by
  have : pathF arcs path = (path.drop j).foldl (stepP arcs) (pathF arcs (path.take j)) := by
    unfold pathF
    rw [← List.foldl_append, List.take_append_drop]
  rw [this, h, foldP_none]
/-- Both walks go through the same states. -/
theorem walk_path (arcs : List Arc) (path : List Int) : (pathF arcs path).map (·.1) = (walkL arcs path).map (·.1) := by
  unfold pathF walkL
  have : ∀ (l : List Int) (p : Option (Int × Int)) (q : Option (Int × List (Int × Int))), p.map (·.1) = q.map (·.1) → (l.foldl (stepP arcs) p).map (·.1) = (l.foldl (stepW arcs) q).map (·.1) := by
    intro l
    induction l with
    | nil => intro p q h; exact h
    | cons i l ih =>
      intro p q h
      refine ih _ _ ?_
      cases p with
      | none =>
        cases q with
        | none => rfl
        | some q => cases h
      | some p =>
        cases q with
        | none => cases h
        | some q =>
          obtain ⟨s, c⟩ := p
          obtain ⟨s', o⟩ := q
          simp at h
          subst h
          simp only [stepP, stepW]
          split <;> rfl
  exact this path _ _ rfl
theorem satA_nn {a b : Int} (ha : 0 ≤ a) (hb : 0 ≤ b) : 0 ≤ satA a b := by unfold satA; split <;> omega

structure PC where
  (j s : Nat)
  c : Int

set_option maxRecDepth 20000 in
set_option maxHeartbeats 8000000 in
theorem t40 (l : Lattice) (path : List Int) (hfit : arcsFit l.final.length l.arcs) (hcost : ∀ a ∈ l.arcs, 0 ≤ a.cost) (hfin : ∀ v ∈ l.final, 0 ≤ v) (hS0 : 0 < l.final.length) (h1 : l.final.length ≤ 1000000) (h2 : l.arcs.length ≤ 1000000000) (h3 : path.length ≤ 1000) :
    CallsOk Tryd.prog 10 [l.enc, .sl (intsT path)] (.tup [ti (pathL l path).1, ti (pathL l path).2.1, .bool (pathL l path).2.2]) := by
  have hΓ := ok36
  obtain ⟨s0, arcs, fin⟩ := l
  obtain ⟨R, hR⟩ : ∃ R, pathL ⟨s0, arcs, fin⟩ path = R := ⟨_, rfl⟩
  rw [hR]
  simp only [pathL] at hR
  simp only at hfit hcost hfin hS0 h1 h2
  refine c40.ok (by simp) (initSt_sat ?_)
  simp [Lattice.enc]
  refine SatD.regSeq hΓ follows [1, 2] ?_
  simp [d40r0]
  refine SatD.le (Le.keep (o := []) (l := [(1, .v (.sl (intsT path))), (2, .v (.box [ti s0, .sl (arcsT arcs), .sl (intsT fin)]))]) (nxt' := 1200) ?_ ?_ ?_ ?_) ?_
  · simp
  · simp
  · simp
  · simp
  refine SatD.regSeq hΓ follows [1, 2, 7] ?_
  simp [d40r1]
  refine SatD.regSeq hΓ follows [1, 2, 7, 8] ?_
  simp [d40r2]
  refine SatD.seq ?_
  refine SatD.regSeq hΓ follows [1, 2, 7, 8, 9] ?_
  simp [d40r3]
  obtain ⟨L, hL⟩ : ∃ L, path.length = L := ⟨_, rfl⟩
  rw [hL] at h3
  refine SatD.block ?_
  refine SatD.loop (fun p : PC => ⟨DM.look [(1, .v (.sl (intsT path))), (2, .v (.box [ti s0, .sl (arcsT arcs), .sl (intsT fin)])), (7, .v (ti p.s)), (8, .v (ti p.c)), (9, .v (ti p.j))], obs [], 2000, 1000, []⟩)
    (fun p => p.j ≤ L ∧ p.s < fin.length ∧ 0 ≤ p.c ∧ pathF arcs (path.take p.j) = some ((p.s : Int), p.c)) (fun p => L - p.j) ⟨0, 0, 0⟩ (Le.keep (o := []) ?_ ?_ ?_ ?_) (by simp [pathF, hS0]) (fun p hp => ?_)
  · simp
  · simp
  · simp
  · simp
  obtain ⟨j, st, cc⟩ := p
  obtain ⟨hj, hst, hcc0, hw⟩ := hp
  simp only at hj hst hcc0 hw ⊢
  refine SatD.seq ?_
  refine SatD.regSeq hΓ follows [1, 2, 7, 8, 9, 13] ?_
  simp [d40r4, hL]
  refine SatD.cond rfl (fun hcc => ?_) (fun hcc => ?_)
  · simp at hcc
    refine SatD.skip ?_
    simp
    refine SatD.seq ?_
    have hjp : j < path.length := by omega
    have hr := rowAt_ints hjp
    have hws := pathF_succ (arcs := arcs) hjp
    obtain ⟨i, hi⟩ : ∃ i, path.getD j default = i := ⟨_, rfl⟩
    rw [hi] at hr hws
    rw [hw] at hws
    refine SatD.block ?_
    refine SatD.seq ?_
    refine SatD.regToS hΓ follows [(1, .v (.sl (intsT path))), (2, .v (.box [ti s0, .sl (arcsT arcs), .sl (intsT fin)])), (7, .v (ti st)), (8, .v (ti cc)), (9, .v (ti j)), (43, .v (.bool (decide (i < 0 ∨ (arcs.length : Int) ≤ i ∨ (arcs.getD i.toNat default).f ≠ st))))] ?_ ?_
    · by_cases q1 : i < 0
      · simp [d40r5, hr, hcc, hL, q1]
      · by_cases q2 : (arcs.length : Int) ≤ i
        · simp [d40r5, hr, hcc, hL, q1, q2]
        · obtain ⟨k, rfl⟩ := Int.eq_ofNat_of_zero_le (show 0 ≤ i by omega)
          have hk : k < arcs.length := by omega
          have hra := rowAt_arcs hk
          obtain ⟨c, hc⟩ : ∃ c, arcs.getD k default = c := ⟨_, rfl⟩
          rw [hc] at hra
          have hc2 : arcs[k] = c := by simpa [List.getD, hk] using hc
          by_cases q3 : c.f = st
          · simp [d40r5, hr, hcc, hL, q1, q2, hk, hra, hc2, Arc.enc, q3]
          · simp [d40r5, hr, hcc, hL, q1, q2, hk, hra, hc2, Arc.enc, q3]
    refine SatD.cond rfl (fun h => ?_) (fun h => ?_)
    · simp only [decide_eq_true_eq] at h
      refine SatD.regSeq hΓ follows [4, 5, 6] ?_
      simp [d40r6]
      refine SatD.ret ?_
      have hnone : pathF arcs path = none := pathF_none (j := j + 1) (by rw [hws]; simp only [stepP]; rw [if_pos h])
      rw [hnone] at hR
      subst hR
      simp [d40res]
    simp only [decide_eq_false_iff_not] at h
    simp only [stepP] at hws
    rw [if_neg h] at hws
    obtain ⟨k, rfl⟩ := Int.eq_ofNat_of_zero_le (show 0 ≤ i by omega)
    have hk : k < arcs.length := by omega
    have hra := rowAt_arcs hk
    simp only [Int.toNat_natCast] at hws h
    obtain ⟨c, hc⟩ : ∃ c, arcs.getD k default = c := ⟨_, rfl⟩
    have hcm : c ∈ arcs := by rw [← hc]; simp [List.getD, hk]
    have hcin := hfit c hcm
    have hcst := hcost c hcm
    rw [hc] at hra hws h
    obtain ⟨cf, ct, cx, ck, co⟩ := c
    obtain ⟨f1, f2, f3, f4, f5⟩ := hcin
    simp only at f1 f2 f3 f4 f5 hws hcst
    obtain ⟨g, rfl⟩ := Int.eq_ofNat_of_zero_le f3
    refine SatD.skip ?_
    simp
    refine SatD.regSeq hΓ follows [1, 2, 7, 8, 9] ?_
    simp [d40r7, hr, hcc, hL, hk, hra, Arc.enc]
    refine SatD.reg hΓ follows [1, 2, 7, 8, 9] ?_
    simp [d40r8, hr, hcc, hL, hk, hra, Arc.enc]
    refine ⟨⟨cc, ck, ⟨rfl, rfl⟩, by omega, by omega⟩, ?_⟩
    refine SatD.reg hΓ follows [1, 2, 7, 8, 9] ?_
    simp [d40r9]
    rw [wrap_id (by omega)]
    refine ⟨⟨j + 1, g, satA cc ck⟩, Le.keep (o := []) ?_ ?_ ?_ ?_, ⟨by simp; omega, by simp; omega, satA_nn hcc0 hcst, hws⟩, by simp; omega⟩
    · simp
    · simp
    · simp
    · simp
  simp at hcc
  have : j = L := by omega
  subst this
  rw [← hL, List.take_length] at hw
  rw [hw] at hR
  simp only [Int.toNat_natCast] at hR
  refine SatD.exit ?_
  simp
  refine SatD.seq ?_
  have hrf := rowAt_ints hst
  obtain ⟨fv, hfv⟩ : ∃ v, fin.getD st default = v := ⟨_, rfl⟩
  have hfv0 := hfin fv (by rw [← hfv]; simp [List.getD, hst])
  have hR' : (if 1099511627776 ≤ fv then ((0 : Int), (0 : Int), false) else ((st : Int), satA cc fv, true)) = R := by rw [← hfv]; exact hR
  rw [hfv] at hrf
  refine SatD.regSeq hΓ follows [2, 7, 8, 69] ?_
  simp [d40r10, hst, hrf]
  refine SatD.cond rfl (fun h => ?_) (fun h => ?_)
  · simp at h
    rw [if_pos h] at hR'
    subst hR'
    refine SatD.regSeq hΓ follows [4, 5, 6] ?_
    simp [d40r11]
    refine SatD.ret ?_
    simp [d40res]
  · simp at h
    rw [if_neg (by omega)] at hR'
    subst hR'
    refine SatD.skip ?_
    simp
    refine SatD.regSeq hΓ follows [4, 5, 6] ?_
    simp [d40r12, hst, hrf]
    refine ⟨⟨cc, fv, ⟨rfl, rfl⟩, by omega, by omega⟩, ?_⟩
    refine SatD.ret ?_
    simp [d40res]

theorem walk_nn {arcs : List Arc} {S : Nat} (hfit : arcsFit S arcs) : ∀ (l : List Int) (s : Int) (out : List (Int × Int)), 0 ≤ s ∧ s < S → ∀ s' out', l.foldl (stepW arcs) (some (s, out)) = some (s', out') → 0 ≤ s' ∧ s' < S
  | [], s, out, h, s', out', e => by simp at e; omega
  | i :: l, s, out, h, s', out', e => by
    simp only [List.foldl_cons, stepW] at e
    split at e
    · rw [fold_none] at e; cases e
    · rename_i hc
      have hk : i.toNat < arcs.length := by omega
      have := hfit (arcs.getD i.toNat default) (by simp [List.getD, hk])
      exact walk_nn hfit l _ _ ⟨this.2.2.1, this.2.2.2.1⟩ _ _ e

/-! Script -/
end Go.Proofs
/- Law 6. Conditions: none. -/
namespace Go.Proofs
open Go.DM
set_option linter.unusedSimpArgs false
set_option linter.unusedVariables false

theorem fair_ok {x : Input} {k : Int} (h : fairP x k) : inOk x ∧ x.columns.length ≤ 60 ∧ x.insert.length ≤ 5 ∧ (∀ c ∈ x.columns, c.read.length = x.insert.length) := by
  obtain ⟨⟨h1, h2⟩, h3, h4⟩ := h
  have hcols : colsV x.columns x.insert.length := by
    by_cases e : colsV x.columns x.insert.length
    · exact e
    · exact absurd (.inr (.inr (.inr (.inr (.inr e))))) h3
  have hc : ∀ c ∈ x.columns, colV c x.insert.length := by
    intro c hc
    obtain ⟨i, hi, rfl⟩ := List.getElem_of_mem hc
    have := hcols i hi
    rwa [show x.columns.getD i default = x.columns[i] by simp [List.getD, hi]] at this
  have hsw : 0 ≤ x.swap ∧ x.swap ≤ 60000 := by
    constructor
    · by_cases e : x.swap < 0
      · exact absurd (.inr (.inr (.inr (.inl e)))) h3
      · omega
    · by_cases e : x.swap > 60000
      · exact absurd (.inr (.inr (.inr (.inr (.inl e))))) h3
      · omega
  have hn : x.columns.length ≤ 60 := by
    by_cases e : (x.columns.length : Int) > 60
    · exact absurd (.inr (.inl e)) h3
    · omega
  have hrd : ∀ c ∈ x.columns, c.read.length = x.insert.length := by
    intro c hcm
    have := (hc c hcm).1
    omega
  refine ⟨⟨⟨by omega, fun c hcm => ?_⟩, fun c hcm => ⟨by rw [hrd c hcm]; omega, fun p hp => ?_⟩, by omega, fun p hp => ?_, hsw.1, by omega⟩, hn, by omega, hrd⟩
  · have := (hc c hcm).1
    omega
  · obtain ⟨t, ht, rfl⟩ := List.getElem_of_mem hp
    have := (hc c hcm).2 t (by rw [hrd c hcm] at ht; simpa using ht)
    unfold readOk3 at this
    rw [show c.read.getD t default = c.read[t] by simp [List.getD, ht]] at this
    omega
  · obtain ⟨t, ht, rfl⟩ := List.getElem_of_mem hp
    have := h4 t (by simpa using ht)
    unfold insV at this
    rw [show x.insert.getD t default = x.insert[t] by simp [List.getD, ht]] at this
    omega

/-! what the reference builds fits -/
theorem mem_putFold {a b : Arc} {l : List Arc} (h : b ∈ (putFold a l).2) : b ∈ l ∨ b = a := by
  have key : ∀ (l : List Arc) (p : Bool × List Arc), b ∈ (l.foldl (putStep a) p).2 → b ∈ p.2 ∨ b ∈ l ∨ b = a := by
    intro l
    induction l with
    | nil => intro p h; exact .inl h
    | cons c l ih =>
      intro p h
      rcases ih _ h with h | h | h
      · unfold putStep at h
        split at h
        · simp only [List.mem_append, List.mem_singleton] at h
          rcases h with h | h
          · exact .inl h
          · split at h
            · exact .inr (.inr h)
            · exact .inr (.inl (by simp [h]))
        · split at h
          · simp only [List.mem_append, List.mem_singleton] at h
            rcases h with (h | h) | h
            · exact .inl h
            · exact .inr (.inr h)
            · exact .inr (.inl (by simp [h]))
          · simp only [List.mem_append, List.mem_singleton] at h
            rcases h with h | h
            · exact .inl h
            · exact .inr (.inl (by simp [h]))
      · exact .inr (.inl (by simp [h]))
      · exact .inr (.inr h)
  rcases key l (false, []) h with h | h | h
  · simp at h
  · exact .inl h
  · exact .inr h
theorem mem_putL {a b : Arc} {l : List Arc} (h : b ∈ putL l a) : b ∈ l ∨ b = a := by
  unfold putL at h
  split at h
  · exact .inl h
  · split at h
    · exact mem_putFold h
    · rw [List.mem_append, List.mem_singleton] at h
      rcases h with h | h
      · exact mem_putFold h
      · exact .inr h
theorem mem_putAll {b : Arc} : ∀ (cs l : List Arc), b ∈ putAll l cs → b ∈ l ∨ b ∈ cs
  | [], l, h => .inl h
  | c :: cs, l, h => by
    rcases mem_putAll cs (putL l c) h with h | h
    · rcases mem_putL h with h | h
      · exact .inl h
      · exact .inr (by simp [h])
    · exact .inr (by simp [h])
theorem mem_ft {α : Type} {f : Nat → List α} {i m : Nat} {a : α} (h : a ∈ ft f i m) : ∃ k, i ≤ k ∧ k < m ∧ a ∈ f k := by
  unfold ft at h
  obtain ⟨e, he, ha⟩ := List.mem_flatMap.1 h
  rw [List.mem_range] at he
  exact ⟨i + e, by omega, by omega, ha⟩
def arcGood (n : Nat) (a : Arc) : Prop := 0 ≤ a.f ∧ a.f < (2 * n + 1 : Nat) ∧ 0 ≤ a.t ∧ a.t < (2 * n + 1 : Nat) ∧ a.ops.length ≤ 1000000 ∧ 0 ≤ a.cost
theorem dels_len (n : Nat) : (dels n).length = n := by simp [dels]
theorem refArcs_good {x : Input} (hx : inOk x) (hn : x.columns.length ≤ 60) : ∀ a ∈ refArcs x, arcGood x.columns.length a := by
  obtain ⟨hd, hcs, hins, hinp, hsw0, hsw⟩ := hx
  have hdb := delC_bound hd
  intro a ha
  unfold refArcs at ha
  rcases mem_putAll _ _ ha with ha | ha
  · rcases mem_putAll _ _ ha with ha | ha
    · cases ha
    · obtain ⟨i, _, hi, ha⟩ := mem_ft ha
      unfold rI at ha
      rcases List.mem_append.1 ha with ha | ha
      · obtain ⟨m, hm1, hm2, ha⟩ := mem_ft ha
        unfold rM at ha
        rcases List.mem_append.1 ha with ha | ha
        · obtain ⟨t, _, ht, ha⟩ := mem_ft ha
          unfold rA at ha
          split at ha
          · rename_i hc
            rw [List.mem_singleton] at ha
            subst ha
            have := satA_nn (hdb i m).1 hc.2
            refine ⟨by simp only; omega, by simp only; omega, by simp only; omega, by simp only; omega, by simp [dels_len]; omega, this⟩
          · cases ha
        · unfold rS at ha
          split at ha
          · rename_i hc
            have hc' : m + 1 < x.columns.length := by simp [swapOk] at hc; exact hc.1
            rw [List.mem_singleton] at ha
            subst ha
            have := satA_nn (hdb i m).1 hsw0
            refine ⟨by simp only; omega, by simp only; omega, by simp only; omega, by simp only; omega, by simp [dels_len]; omega, this⟩
          · cases ha
      · unfold rT at ha
        split at ha
        · rename_i hc
          have hc' : i + 1 < x.columns.length := by simp [swapOk] at hc; exact hc.1
          rw [List.mem_singleton] at ha
          subst ha
          refine ⟨by simp only; omega, by simp only; omega, by simp only; omega, by simp only; omega, by simp, by simp⟩
        · cases ha
  · obtain ⟨i, _, hi, ha⟩ := mem_ft ha
    unfold iI at ha
    obtain ⟨m, hm1, hm2, ha⟩ := mem_ft ha
    unfold iM at ha
    obtain ⟨t, _, ht, ha⟩ := mem_ft ha
    unfold iT at ha
    rw [List.mem_singleton] at ha
    subst ha
    have := satA_nn (hdb i m).1 (hinp (x.insert.getD t default) (by simp [List.getD, ht])).1
    refine ⟨by simp only; omega, by simp only; omega, by simp only; omega, by simp only; omega, by simp [dels_len]; omega, this⟩
theorem refFin_nn {x : Input} (hx : inOk x) : ∀ v ∈ refFin x (2 * x.columns.length + 1), 0 ≤ v := by
  intro v hv
  obtain ⟨s, hs, rfl⟩ := List.mem_map.1 hv
  split
  · split
    · exact (delC_bound hx.1 _ _).1
    · omega
  · omega
theorem refFin_len (x : Input) (k : Nat) : (refFin x k).length = 2 * x.columns.length + 1 := by simp [refFin]
theorem refArcs_len {x : Input} (ht : x.insert.length ≤ 100) (hn : x.columns.length ≤ 60) : (refArcs x).length ≤ 900000 := by
  unfold refArcs
  have h1 := putAll_len (ft (iI x) 0 (x.columns.length + 1)) (putAll [] (ft (rI x) 0 (x.columns.length + 1)))
  have h2 := putAll_len (ft (rI x) 0 (x.columns.length + 1)) []
  have h3 := ft_len (f := iI x) (B := 7000) (fun k => iI_len x k ht hn) 0 (x.columns.length + 1)
  have h4 := ft_len (f := rI x) (B := 7000) (fun k => rI_len x k ht hn) 0 (x.columns.length + 1)
  simp at h2
  omega

abbrev g11 : DM.Spec := specP (fun ts => ∃ (x : Input) (k : Int), ts = [x.enc, ti k]) (fun | [x, .int _ k] => .bool (decide (fairP (decX x) k)) | _ => .bool false) true
abbrev g14 : DM.Spec := specP (fun ts => ∃ (x : Input) (k : Int), ts = [x.enc] ∧ fairP x k) (fun | [x] => (refBuildL (decX x)).enc | _ => .bool false) false
abbrev gS : DM.Spec := specP (fun ts => ∃ (x : Input) (p : List Int) (k : Int), ts = [x.enc, (refBuildL x).enc, .sl (intsT p)] ∧ fairP x k ∧ p.length ≤ 1000) (fun | [x, l, .sl p] => .tup [.sl (opsT (scriptL (decX x).columns.length (decL l) (decInts p)).1), ti (scriptL (decX x).columns.length (decL l) (decInts p)).2] | _ => .bool false) false
theorem walk_len {arcs : List Arc} {S : Nat} (hfit : arcsFit S arcs) : ∀ (l : List Int) (p : Option (Int × List (Int × Int))) (b : Nat), (∀ s o, p = some (s, o) → o.length ≤ b) → ∀ s o, l.foldl (stepW arcs) p = some (s, o) → o.length ≤ b + l.length * 1000000 := by
  intro l
  induction l with
  | nil => intro p b h s o e; have := h s o e; simp; omega
  | cons i l ih =>
    intro p b h s o e
    have := ih (stepW arcs p i) (b + 1000000) (fun s' o' e' => ?_) s o e
    · simp only [List.length_cons]; omega
    · cases p with
      | none => cases e'
      | some q =>
        obtain ⟨sq, oq⟩ := q
        have hb := h sq oq rfl
        simp only [stepW] at e'
        split at e'
        · cases e'
        · rename_i hc
          simp only [Option.some.injEq, Prod.mk.injEq] at e'
          obtain ⟨_, rfl⟩ := e'
          have hk : i.toNat < arcs.length := by omega
          have := (hfit (arcs.getD i.toNat default) (by simp [List.getD, hk])).2.2.2.2
          rw [List.length_append]
          omega
theorem script_len {l : Lattice} {S : Nat} (hfit : arcsFit S l.arcs) (hS : 0 < S) (n : Nat) (path : List Int) : (scriptL n l path).1.length ≤ path.length * 1000000 + n := by
  unfold scriptL
  cases hw : walkL l.arcs path with
  | none => simp
  | some q =>
    obtain ⟨s, out⟩ := q
    have h1 := walk_len hfit path (some (0, [])) 0 (fun s o e => by simp at e; simp [← e.2]) _ _ hw
    have h2 := walk_nn hfit path 0 [] (by omega) _ _ hw
    simp only
    split
    · simp
    · simp only [List.length_append, dels_len]
      omega
theorem fair_fit {x : Input} {k : Int} (hf : fairP x k) : arcsFit (2 * x.columns.length + 1) (refBuildL x).arcs := by
  obtain ⟨h1, h2, h3, h4⟩ := fair_ok hf
  intro a ha
  obtain ⟨b1, b2, b3, b4, b5, b6⟩ := refArcs_good h1 h2 a ha
  exact ⟨b1, b2, b3, b4, b5⟩

end Go.Proofs
