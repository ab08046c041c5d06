import Derived.Test.YtecgedikabjcdaaSb
import Derived.Test.YtecgedikabjcdaaMe
namespace Go.Proofs
open Go.DM Go.DM.Srt
set_option linter.unusedSimpArgs false
set_option linter.unusedVariables false

def goodE (x : List T) : Prop := ∃ e : Edge, x = e.enc ∧ 0 ≤ e.head ∧ e.head ≤ 1000000000000
def keyE (x : List T) : Int := unti (x.getD 0 (ti 0))
def cmpE (x y : List T) : Int := keyE x - keyE y
theorem keyE_enc (e : Edge) : keyE e.enc = e.head := rfl
theorem cmpOkE : CmpOk goodE cmpE 36 5 := by
  refine ⟨?_, ?_⟩
  · rintro x y ⟨a, rfl, h1, h2⟩ ⟨b, rfl, h3, h4⟩
    exact t36 a b ⟨h1, h2⟩ ⟨h3, h4⟩
  · rintro x ⟨a, rfl, _⟩
    refine ⟨rfl, ?_⟩
    intro t ht
    simp only [Edge.enc, List.mem_cons, List.not_mem_nil, or_false] at ht
    rcases ht with rfl | rfl | rfl | rfl | rfl <;> rfl
theorem swoE : SWO (ltF cmpE) := by
  have hlt : ∀ x y, ltF cmpE x y = decide (keyE x < keyE y) := fun x y => decide_eq_decide.2 (by unfold cmpE; omega)
  refine ⟨fun x => ?_, fun x y z h1 h2 => ?_, fun x y z h1 h2 => ?_⟩ <;> simp only [hlt, decide_eq_true_eq, decide_eq_false_iff_not] at * <;> omega

/-- The stable sort goes through a map. -/
theorem insR_map {α β : Type} {lt : β → β → Bool} {lt' : α → α → Bool} {f : α → β} (h : ∀ a b, lt (f a) (f b) = lt' a b) (x : α) : ∀ l : List α, insR lt (f x) (l.map f) = (insR lt' x l).map f
  | [] => rfl
  | y :: l => by
    simp only [List.map_cons, insR, h]
    split
    · simp [insR_map h x l]
    · simp
theorem isort_map {α β : Type} {lt : β → β → Bool} {lt' : α → α → Bool} {f : α → β} (h : ∀ a b, lt (f a) (f b) = lt' a b) (l : List α) : isort lt (l.map f) = (isort lt' l).map f := by
  unfold isort isortR
  rw [List.map_reverse]
  congr 1
  suffices ∀ (l acc : List α), List.foldl (fun acc x => insR lt x acc) (acc.map f) (l.map f) = (List.foldl (fun acc x => insR lt' x acc) acc l).map f from this l []
  intro l
  induction l with
  | nil => intro acc; rfl
  | cons x l ih => intro acc; rw [List.map_cons, List.foldl_cons, List.foldl_cons, insR_map h, ih]

def ltH (a b : Edge) : Bool := decide (a.head < b.head)
theorem isort_edges (l : List Edge) : isort (ltF cmpE) (edgesT l) = edgesT (isort ltH l) := by
  refine isort_map (fun a b => ?_) l
  simp only [ltF, cmpE, keyE_enc, ltH]
  exact decide_eq_decide.2 (by omega)

def spanL (nt st : Int) (rules : List Rule) (arcs : List Arc) (f t : Int) (k : Nat) : List Edge := (List.range k).flatMap fun k => inst nt st (rules.getD k default) arcs f t k
def spanE (nt st : Int) (rules : List Rule) (arcs : List Arc) (f t : Int) : List Edge := isort ltH (spanL nt st rules arcs f t rules.length)
/-- The hyperedges of the spans (f, f) .. (f, t - 1). -/
def rowL (nt st : Int) (rules : List Rule) (arcs : List Arc) (f t : Nat) : List Edge := ((List.range t).drop f).flatMap fun t : Nat => spanE nt st rules arcs f t
def allL (nt st : Int) (rules : List Rule) (arcs : List Arc) (f : Nat) : List Edge := (List.range f).flatMap fun f => rowL nt st rules arcs f st.toNat
def finE (nt st start : Int) (fin : List Int) (t : Nat) : List Edge := if fin.getD t default < Inf then [⟨goalI nt st, [idxI nt st start 0 t], fin.getD t default, -1, t⟩] else []
def finL (nt st start : Int) (fin : List Int) (k : Nat) : List Edge := (List.range k).flatMap (finE nt st start fin)
def hyper (n : Normal) (l : Lattice) : List Edge := allL n.nonterms l.states n.rules l.arcs l.states.toNat ++ finL n.nonterms l.states n.start l.final l.final.length

theorem spanL_succ (nt st : Int) (rules : List Rule) (arcs : List Arc) (f t : Int) (k : Nat) : spanL nt st rules arcs f t (k + 1) = spanL nt st rules arcs f t k ++ inst nt st (rules.getD k default) arcs f t k := by
  simp [spanL, List.range_succ]
theorem rowL_succ (nt st : Int) (rules : List Rule) (arcs : List Arc) (f t : Nat) (h : f ≤ t) : rowL nt st rules arcs f (t + 1) = rowL nt st rules arcs f t ++ spanE nt st rules arcs f t := by
  unfold rowL
  rw [List.range_succ, List.drop_append_of_le_length (by simpa using h)]
  simp
theorem rowL_self (nt st : Int) (rules : List Rule) (arcs : List Arc) (f : Nat) : rowL nt st rules arcs f f = [] := by simp [rowL]
theorem allL_succ (nt st : Int) (rules : List Rule) (arcs : List Arc) (f : Nat) : allL nt st rules arcs (f + 1) = allL nt st rules arcs f ++ rowL nt st rules arcs f st.toNat := by
  simp [allL, List.range_succ]
theorem finL_succ (nt st start : Int) (fin : List Int) (k : Nat) : finL nt st start fin (k + 1) = finL nt st start fin k ++ finE nt st start fin k := by
  simp [finL, List.range_succ]

/-- What the proof asks of a grammar and a lattice. -/
structure Fit (n : Normal) (l : Lattice) : Prop where
  sm : sm n.nonterms l.states
  start : 0 ≤ n.start ∧ n.start ≤ 1000
  rules : ∀ r ∈ n.rules, okR2 r
  nrules : n.rules.length ≤ 1000
  arcs : okArcs l.arcs
  narcs : l.arcs.length ≤ 10000
  nfin : l.final.length ≤ 1000
  small : l.states ≤ 100

def pre34 (ts : List T) : Prop := ∃ (n : Normal) (l : Lattice) (k : Nat) (f t : Int), ts = [n.enc, l.enc, ti k, ti f, ti t] ∧ k < n.rules.length
def fn34 : List T → T
  | [n, l, .int _ k, .int _ f, .int _ t] => .fn (.func 47) (caps47 (decN n).nonterms (decL l).states ((decN n).rules.getD k.toNat default) (decL l).arcs (decL l).final f t k)
  | _ => .bool false
def Γ11 : Env := envOf [(35, specS (k35 goodE cmpE)), (34, specP pre34 fn34 false), (32, spec32), (33, spec33), (37, spec37)]
theorem ok11 : EnvOk Try.prog Γ11 := by
  refine ok35 cmpOkE swoE (EnvOk.cons ok1 ?_)
  rintro ts ⟨n, l, k, f, t, rfl, hk⟩
  exact ⟨by simpa [fn34] using t34 n l k f t hk, fun h => by cases h⟩

theorem inst_length (nt st : Int) (r : Rule) (arcs : List Arc) (f t k : Int) (ha : arcs.length ≤ 10000) (hf : okF f t) : (inst nt st r arcs f t k).length ≤ 10000 := by
  unfold inst
  split
  · split <;> simp
  split
  · have : ∀ (l : List Nat) (g : Nat → List Edge), (∀ i, (g i).length ≤ 1) → (l.flatMap g).length ≤ l.length := by
      intro l g hg
      induction l with
      | nil => simp
      | cons x l ih => simp only [List.flatMap_cons, List.length_append, List.length_cons]; have := hg x; omega
    have := this (List.range arcs.length) _ (fun i => by split <;> simp : ∀ i, (if (arcs.getD i default).f = f ∧ (arcs.getD i default).t = t ∧ (arcs.getD i default).term = r.a then [edgeOf nt st r f t k (r.price + (arcs.getD i default).cost) i []] else []).length ≤ 1)
    simp only [List.length_range] at this
    omega
  split
  · simp
  split
  · simp; unfold okF at hf; omega
  · simp
theorem flat_length {β : Type} (g : Nat → List β) (c : Nat) : ∀ l : List Nat, (∀ i ∈ l, (g i).length ≤ c) → (l.flatMap g).length ≤ l.length * c
  | [], _ => by simp
  | x :: l, h => by
    simp only [List.flatMap_cons, List.length_append, List.length_cons]
    have := h x (by simp)
    have := flat_length g c l fun i hi => h i (by simp [hi])
    rw [Nat.add_mul]; omega
end Go.Proofs
namespace Go.Proofs
open Go.DM Go.DM.Srt
set_option linter.unusedSimpArgs false
set_option linter.unusedVariables false

theorem spanE_len {n : Normal} {l : Lattice} (h : Fit n l) {f t : Int} (hf : okF f t) : (spanE n.nonterms l.states n.rules l.arcs f t).length ≤ 10000000 := by
  unfold spanE
  rw [isort_length]
  have := flat_length (fun k => inst n.nonterms l.states (n.rules.getD k default) l.arcs f t k) 10000 (List.range n.rules.length) fun i _ => inst_length _ _ _ _ _ _ _ h.narcs hf
  have hn := h.nrules
  simp only [List.length_range] at this
  unfold spanL
  omega
theorem spanL_len {n : Normal} {l : Lattice} (h : Fit n l) {f t : Int} (hf : okF f t) (k : Nat) (hk : k ≤ n.rules.length) : (spanL n.nonterms l.states n.rules l.arcs f t k).length ≤ 10000000 := by
  have := flat_length (fun k => inst n.nonterms l.states (n.rules.getD k default) l.arcs f t k) 10000 (List.range k) fun i _ => inst_length _ _ _ _ _ _ _ h.narcs hf
  have hn := h.nrules
  simp only [List.length_range] at this
  unfold spanL
  omega
theorem rowL_len {n : Normal} {l : Lattice} (h : Fit n l) (f t : Nat) (ht : (t : Int) ≤ l.states) : (rowL n.nonterms l.states n.rules l.arcs f t).length ≤ 1000000000 := by
  have hs := h.small
  have := flat_length (fun t : Nat => spanE n.nonterms l.states n.rules l.arcs f t) 10000000 ((List.range t).drop f) fun i hi => spanE_len h (by
    rw [List.mem_iff_getElem] at hi
    obtain ⟨j, hj, rfl⟩ := hi
    simp only [List.length_drop, List.length_range] at hj
    rw [List.getElem_drop, List.getElem_range]
    unfold okF; omega)
  simp only [List.length_drop, List.length_range] at this
  unfold rowL
  have : (t - f) * 10000000 ≤ 100 * 10000000 := Nat.mul_le_mul_right _ (by omega)
  omega
theorem allL_len {n : Normal} {l : Lattice} (h : Fit n l) (f : Nat) (hf : (f : Int) ≤ l.states) : (allL n.nonterms l.states n.rules l.arcs f).length ≤ 100000000000 := by
  have hs := h.small
  have h1 := h.sm.2.2.1
  have := flat_length (fun f => rowL n.nonterms l.states n.rules l.arcs f l.states.toNat) 1000000000 (List.range f) fun i _ => rowL_len h i _ (by omega)
  simp only [List.length_range] at this
  unfold allL
  have : f * 1000000000 ≤ 100 * 1000000000 := Nat.mul_le_mul_right _ (by omega)
  omega
theorem finL_len {n : Normal} {l : Lattice} (h : Fit n l) (k : Nat) (hk : k ≤ l.final.length) : (finL n.nonterms l.states n.start l.final k).length ≤ 1000 := by
  have := flat_length (finE n.nonterms l.states n.start l.final) 1 (List.range k) fun i _ => by unfold finE; split <;> simp
  have := h.nfin
  simp only [List.length_range] at *
  unfold finL
  omega

@[simp] theorem chunk_1 (sz : Nat) (cs : List T) : chunk sz 1 cs = [cs.take sz] := rfl
/-- The cells of a value handed over. -/
def rowOf : List T → List T
  | [.agg c] => c
  | _ => []
theorem rowOf_yields (es : List Edge) : (yieldsOf es).map rowOf = edgesT es := by
  simp [yieldsOf, edgesT, rowOf]

theorem inst_head {nt st : Int} {r : Rule} {arcs : List Arc} {f t k : Int} {e : Edge} (he : e ∈ inst nt st r arcs f t k) : e.head = idxI nt st r.head f t := by
  unfold inst at he
  split at he
  · split at he
    · simp only [List.mem_singleton] at he; subst he; rfl
    · cases he
  split at he
  · simp only [List.mem_flatMap] at he
    obtain ⟨i, _, he⟩ := he
    split at he
    · simp only [List.mem_singleton] at he; subst he; rfl
    · cases he
  split at he
  · simp only [List.mem_singleton] at he; subst he; rfl
  split at he
  · simp only [List.mem_map] at he
    obtain ⟨j, _, rfl⟩ := he
    rfl
  · cases he
theorem idx_range {nt st h f t : Int} (hs : sm nt st) (hh : 0 ≤ h ∧ h ≤ 1000) (hf : 0 ≤ f) (hft : f ≤ t) (ht : t < st) : 0 ≤ idxI nt st h f t ∧ idxI nt st h f t ≤ 1000000000000 := by
  obtain ⟨h1, h2, h3, h4⟩ := hs
  rw [idx_eq hf]
  obtain ⟨p1, p2, p3⟩ := span_pos h4 hf hft ht
  have := mul_bound p1 (show spanI st f t ≤ 1000000 by omega) h1 h2
  omega
theorem spanL_good {n : Normal} {l : Lattice} (h : Fit n l) {f t : Int} (hf : 0 ≤ f) (hft : f ≤ t) (ht : t < l.states) (k : Nat) (hk : k ≤ n.rules.length) : ∀ x ∈ edgesT (spanL n.nonterms l.states n.rules l.arcs f t k), goodE x := by
  intro x hx
  simp only [edgesT, List.mem_map, spanL, List.mem_flatMap, List.mem_range] at hx
  obtain ⟨e, ⟨i, hi, he⟩, rfl⟩ := hx
  have hr := h.rules (n.rules.getD i default) (by simp [show i < n.rules.length by omega])
  have := idx_range h.sm ⟨hr.1.1, hr.1.2.1⟩ hf hft ht
  rw [← inst_head he] at this
  exact ⟨e, rfl, this.1, this.2⟩

set_option maxRecDepth 20000 in
set_option maxHeartbeats 4000000 in
theorem t11 (n : Normal) (l : Lattice) (h : Fit n l) : CallsOk Try.prog 11 [n.enc, l.enc] (.agg [ti (goalI n.nonterms l.states + 1), .sl (edgesT (hyper n l))]) := by
  have hΓ := ok11
  have hsm := h.sm
  have hgoal : 0 ≤ goalI n.nonterms l.states ∧ goalI n.nonterms l.states ≤ 1001000000 := by
    obtain ⟨h1, h2, h3, h4⟩ := hsm
    have b1 := mul_bound h1 h2 h3 h4
    have b2 := mul_bound b1.1 b1.2 (b := l.states + 1) (n := 1001) (by omega) (by omega)
    unfold goalI
    omega
  refine c11.ok (by simp) (initSt_sat ?_)
  simp [Normal.enc, Lattice.enc]
  refine SatD.regSeq hΓ follows [2, 3, 4] ?_
  simp [d11r0]
  refine SatD.regSeq hΓ follows [2, 3, 4, 5] ?_
  simp [d11r1, Γ11, spec32, fn32, pre32]
  refine ⟨⟨⟨n, rfl⟩, ⟨l, rfl⟩⟩, ?_⟩
  refine SatD.regSeq hΓ follows [2, 3, 4, 5, 6] ?_
  simp [d11r2, Γ11, spec33, fn33, pre33]
  refine ⟨hsm, ?_⟩
  rw [wrap_id (by omega)]
  obtain ⟨tn, htn⟩ : ∃ tn, T.box [ti n.terms, ti n.nonterms, ti n.start, .sl (rulesT n.rules)] = tn := ⟨_, rfl⟩
  obtain ⟨tl, htl⟩ : ∃ tl, T.box [ti l.states, .sl (arcsT l.arcs), .sl (intsT l.final)] = tl := ⟨_, rfl⟩
  obtain ⟨gl, hgl⟩ : ∃ gl, goalI n.nonterms l.states = gl := ⟨_, rfl⟩
  rw [hgl] at hgoal ⊢
  refine SatD.le (Le.keep (o := [(1185, .box [.v (ti (gl + 1)), .nil0]), (1005, .box [.v (ti 0), .nil0])]) (l := [(2, .v tn), (3, .v tl), (4, .ptr 1005 0), (5, .v (.box [ti n.nonterms, ti l.states])), (6, .ptr 1185 0)]) (nxt' := 2000) ?_ ?_ ?_ ?_) ?_
  · simp
  · simp
  · simp
  · simp [← htn, ← htl]
  refine SatD.le (Le.nilCell 1185 1 47 (sz := 5) (by omega) (cs := [.v (ti (gl + 1)), .nil0]) (by simp) (by simp)) ?_
  simp only [setO_obs, List.set_cons_succ, List.set_cons_zero]
  have hS : (l.states.toNat : Int) = l.states := by have := hsm.2.2.1; omega
  have hsmall := h.small
  refine SatD.seq ?_
  refine SatD.regSeq hΓ follows [2, 3, 4, 5, 6, 22, 23] ?_
  simp [d11r3, ← htl]
  rw [htl]
  refine SatD.block ?_ -- 0
  refine SatD.loop (fun f : Nat => ⟨DM.look [(2, .v tn), (3, .v tl), (4, .ptr 1005 0), (5, .v (.box [ti n.nonterms, ti l.states])), (6, .ptr 1185 0), (22, .v (ti l.states)), (23, .v (ti f))], obs [(1185, .box [.v (ti (gl + 1)), .aref 2000 0]), (2000, .arr 0 47 5 (edgesT (allL n.nonterms l.states n.rules l.arcs f))), (1005, .box [.v (ti 0), .nil0])], 3000, 1000, []⟩)
    (fun f => (f : Int) ≤ l.states) (fun f => l.states.toNat - f) 0 (Le.keep ?_ ?_ ?_ ?_) (by simp; exact hsm.2.2.1) (fun f hf => ?_)
  · simp
  · simp
  · simp [allL, edgesT]
  · simp
  refine SatD.regSeq hΓ follows [2, 3, 4, 5, 6, 22, 23, 24] ?_
  simp [d11r4]
  refine SatD.seq ?_
  refine SatD.cond rfl (fun hc => ?_) (fun hc => ?_)
  · simp at hc
    refine SatD.skip ?_
    simp
    refine SatD.seq ?_
    refine SatD.block ?_ -- 1
    refine SatD.regSeq hΓ follows [2, 3, 4, 5, 6, 7, 22, 23] ?_
    simp [d11r5]
    refine SatD.regSeq hΓ follows [2, 3, 4, 5, 6, 7, 8, 22, 23] ?_
    simp [d11r6]
    refine SatD.block ?_ -- 2
    obtain ⟨es0, hes0⟩ : ∃ es0, allL n.nonterms l.states n.rules l.arcs f = es0 := ⟨_, rfl⟩
    have les0 : es0.length ≤ 100000000000 := by rw [← hes0]; exact allL_len h f hf
    refine SatD.loop (fun t : Nat => ⟨DM.look [(2, .v tn), (3, .v tl), (4, .ptr 1005 0), (5, .v (.box [ti n.nonterms, ti l.states])), (6, .ptr 1185 0), (7, .v (ti f)), (8, .v (ti t)), (22, .v (ti l.states)), (23, .v (ti f))], obs [(1185, .box [.v (ti (gl + 1)), .aref 2000 0]), (2000, .arr 0 47 5 (edgesT (es0 ++ rowL n.nonterms l.states n.rules l.arcs f t))), (1005, .box [.v (ti 0), .nil0])], 4000, 1000, []⟩)
      (fun t => f ≤ t ∧ (t : Int) ≤ l.states) (fun t => l.states.toNat - t) f (Le.keep ?_ ?_ ?_ ?_) ⟨Nat.le_refl _, hf⟩ (fun t ht => ?_)
    · simp
    · simp
    · simp [rowL_self, hes0]
    · simp
    obtain ⟨ht1, ht2⟩ := ht
    refine SatD.seq ?_
    refine SatD.regSeq hΓ follows [2, 3, 4, 5, 6, 7, 8, 22, 23, 30] ?_
    simp [d11r7, ← htl]
    rw [htl]
    refine SatD.cond rfl (fun hd => ?_) (fun hd => ?_)
    · simp at hd
      have hokf : okF f t := ⟨by omega, by omega, by omega⟩
      refine SatD.skip ?_
      simp
      refine SatD.seq ?_
      refine SatD.block ?_ -- 3
      refine SatD.regSeq hΓ follows [2, 3, 4, 5, 6, 7, 8, 9, 22, 23] ?_
      simp [d11r8]
      refine SatD.le (Le.nilCell 4099 0 47 (sz := 5) (by omega) (cs := [.nil0]) (by simp) (by simp)) ?_
      simp only [setO_obs, List.set_cons_succ, List.set_cons_zero]
      obtain ⟨es1, hes1⟩ : ∃ es1, es0 ++ rowL n.nonterms l.states n.rules l.arcs f t = es1 := ⟨_, rfl⟩
      have les1 : es1.length ≤ 101000000000 := by
        rw [← hes1, List.length_append]
        have := rowL_len h f t ht2
        omega
      rw [hes1]
      refine SatD.seq ?_
      refine SatD.regSeq hΓ follows [2, 3, 4, 5, 6, 7, 8, 9, 22, 23, 35, 36] ?_
      simp [d11r9, ← htn]
      rw [htn]
      refine SatD.block ?_ -- 4
      refine SatD.loop (fun k : Nat => ⟨DM.look [(2, .v tn), (3, .v tl), (4, .ptr 1005 0), (5, .v (.box [ti n.nonterms, ti l.states])), (6, .ptr 1185 0), (7, .v (ti f)), (8, .v (ti t)), (9, .ptr 4099 0), (22, .v (ti l.states)), (23, .v (ti f)), (35, .v (ti n.rules.length)), (36, .v (ti k))],
          obs [(4099, .box [.aref 4178 0]), (4178, .arr 0 47 5 (edgesT (spanL n.nonterms l.states n.rules l.arcs f t k))), (1185, .box [.v (ti (gl + 1)), .aref 2000 0]), (2000, .arr 0 47 5 (edgesT es1)), (1005, .box [.v (ti 0), .nil0])], 5000, 1000, []⟩)
        (fun k => k ≤ n.rules.length) (fun k => n.rules.length - k) 0 (Le.keep ?_ ?_ ?_ ?_) (by simp) (fun k hk => ?_)
      · simp
      · simp
      · simp [spanL, edgesT]
      · simp
      have hnr := h.nrules
      refine SatD.regSeq hΓ follows [2, 3, 4, 5, 6, 7, 8, 9, 22, 23, 35, 36, 37] ?_
      simp [d11r10]
      refine SatD.seq ?_
      refine SatD.cond rfl (fun he => ?_) (fun he => ?_)
      · simp at he
        obtain ⟨es2, hes2⟩ : ∃ es2, spanL n.nonterms l.states n.rules l.arcs f t k = es2 := ⟨_, rfl⟩
        have les2 : es2.length ≤ 10000000 := by rw [← hes2]; exact spanL_len h hokf k (by omega)
        rw [hes2]
        obtain ⟨r, hr⟩ : ∃ r, n.rules.getD k default = r := ⟨_, rfl⟩
        have hr2 : okR2 r := h.rules r (by rw [← hr]; simp [he])
        obtain ⟨es3, hes3⟩ : ∃ es3, inst n.nonterms l.states r l.arcs f t k = es3 := ⟨_, rfl⟩
        have les3 : es3.length ≤ 10000 := by rw [← hes3]; exact inst_length _ _ _ _ _ _ _ h.narcs hokf
        have hit := t47 n.nonterms l.states r l.arcs l.final f t k hsm hr2 hokf h.arcs
        rw [hes3] at hit
        refine SatD.skip ?_
        simp
        refine SatD.seq ?_
        refine SatD.block ?_ -- 5
        refine SatD.regSeq hΓ follows [2, 3, 4, 5, 6, 7, 8, 9, 10, 22, 23, 35, 36] ?_
        simp [d11r11]
        refine SatD.regSeq hΓ follows [2, 3, 4, 5, 6, 7, 8, 9, 22, 23, 35, 36, 44] ?_
        simp only [d11r12, ← htn, ← htl]
        have hr' : n.rules[k]?.getD default = r := by rw [← hr]; simp
        simp [Γ11, specP, fn34, hr']
        rw [htn, htl]
        refine ⟨⟨n, l, k, f, t, rfl, he⟩, ?_⟩
        refine SatD.block ?_ -- 6
        refine SatD.rangeF hit (by simp) (by simp) ?_ (fun pre => obs [(4099, .box [.aref 4178 pre.length]), (4178, .arr pre.length 47 5 (edgesT es2 ++ pre.map rowOf)), (1185, .box [.v (ti (gl + 1)), .aref 2000 0]), (2000, .arr 0 47 5 (edgesT es1)), (1005, .box [.v (ti 0), .nil0])]) ?_ ?_ (fun pre x rest hx => ?_) ?_
        · intro x hx
          simp only [yieldsOf, List.mem_map] at hx
          obtain ⟨e, _, rfl⟩ := hx
          rfl
        · simp
        · intro pre r hr
          simp only at hr
          simp only [obs_cons, obs_nil]
          repeat rw [if_neg (by omega)]
        · have hxm : x ∈ yieldsOf es3 := by rw [hx]; simp
          simp only [yieldsOf, List.mem_map] at hxm
          obtain ⟨e, hem, rfl⟩ := hxm
          have lpre : pre.length ≤ 10000 := by
            have : (yieldsOf es3).length = es3.length := by simp [yieldsOf]
            rw [hx] at this
            simp at this
            omega
          obtain ⟨L, hL⟩ : ∃ L, pre.map rowOf = L := ⟨_, rfl⟩
          have lL : L.length = pre.length := by rw [← hL]; simp
          simp only [setPs, hL]
          refine SatD.reg hΓ follows [2, 3, 4, 5, 6, 7, 8, 9, 11, 22, 23, 35, 36] ?_
          simp [d11r13, Edge.enc]
          refine SatD.block ?_ -- 7
          refine SatD.reg hΓ follows [] ?_
          simp [d11r14, roomOk]
          refine ⟨by omega, ?_⟩
          simp only [← look_nil_fun]
          refine Le.keepLow ?_ ?_ ?_ ?_
          · simp [hL, lL, rowOf]
          · simp
          · simp [hL, rowOf]
          · simp
        · have lt3 : (yieldsOf es3).length = es3.length := by simp [yieldsOf]
          simp only [rowOf_yields]
          simp
          refine SatD.reg hΓ follows [2, 3, 4, 5, 6, 7, 8, 9, 22, 23, 35, 36] ?_
          simp [d11r15]
          refine ⟨k + 1, Le.keep ?_ ?_ ?_ ?_, ?_, ?_⟩ -- next round
          · simp
          · simp
          · have hsp : spanL n.nonterms l.states n.rules l.arcs f t (k + 1) = es2 ++ es3 := by rw [spanL_succ, hes2, hr, hes3]
            simp [hsp, edgesT]
          · simp
            exact (wrap_id (by omega)).symm
          · omega
          · omega
      · simp at he
        have hkR : k = n.rules.length := by omega
        subst hkR
        have hgood : ∀ x ∈ edgesT (spanL n.nonterms l.states n.rules l.arcs f t n.rules.length), goodE x := spanL_good h (by omega) (by omega) hd _ (Nat.le_refl _)
        have llen : (spanL n.nonterms l.states n.rules l.arcs f t n.rules.length).length ≤ 10000000 := spanL_len h hokf _ (Nat.le_refl _)
        have hsort := isort_edges (spanL n.nonterms l.states n.rules l.arcs f t n.rules.length)
        have hspan : spanE n.nonterms l.states n.rules l.arcs f t = isort ltH (spanL n.nonterms l.states n.rules l.arcs f t n.rules.length) := rfl
        obtain ⟨es4, hes4⟩ : ∃ es4, spanL n.nonterms l.states n.rules l.arcs f t n.rules.length = es4 := ⟨_, rfl⟩
        rw [hes4] at hgood llen hsort hspan ⊢
        obtain ⟨es5, hes5⟩ : ∃ es5, isort ltH es4 = es5 := ⟨_, rfl⟩
        have l5 : es5.length = es4.length := by rw [← hes5, isort_length]
        rw [hes5] at hsort hspan
        refine SatD.exit ?_
        simp
        refine SatD.regASeq hΓ follows (rs := d11r16S) (.inr ⟨_, rfl⟩) (by kernel_rfl) [2, 3, 4, 5, 6, 7, 8, 9, 22, 23] ?_
        simp [d11r16S, Γ11, k35, setO_obs, hsort]
        refine ⟨⟨hgood, by omega⟩, ?_⟩
        refine SatD.reg hΓ follows [2, 3, 4, 5, 6, 7, 8, 22, 23] ?_
        simp [d11r17, roomOk]
        refine ⟨⟨?_, by omega, by omega⟩, ?_⟩
        · intro x hx
          simp only [edgesT, List.mem_map] at hx
          obtain ⟨e, _, rfl⟩ := hx
          rfl
        refine SatD.reg hΓ follows [2, 3, 4, 5, 6, 7, 8, 22, 23] ?_
        simp [d11r18]
        refine ⟨t + 1, Le.keep ?_ ?_ ?_ ?_, ⟨?_, ?_⟩, ?_⟩ -- next round
        · simp
        · simp
        · rw [rowL_succ _ _ _ _ _ _ ht1, ← List.append_assoc, hes1, hspan]
          simp [edgesT]
        · simp
          exact (wrap_id (by omega)).symm
        · omega
        · omega
        · omega
    · simp at hd
      refine SatD.exit ?_
      simp
      refine SatD.reg hΓ follows [2, 3, 4, 5, 6, 22, 23] ?_
      simp [d11r19]
      have htS : t = l.states.toNat := by omega
      refine ⟨f + 1, Le.keep ?_ ?_ ?_ ?_, ?_, ?_⟩ -- next round
      · simp
      · simp
      · rw [allL_succ, hes0, htS]
        simp
      · simp
        exact (wrap_id (by omega)).symm
      · omega
      · omega
  · simp at hc
    have hfS : f = l.states.toNat := by omega
    refine SatD.exit ?_
    simp
    obtain ⟨es6, hes6⟩ : ∃ es6, allL n.nonterms l.states n.rules l.arcs l.states.toNat = es6 := ⟨_, rfl⟩
    have les6 : es6.length ≤ 100000000000 := by rw [← hes6]; exact allL_len h _ (by omega)
    rw [hfS, hes6]
    refine SatD.seq ?_
    refine SatD.regSeq hΓ follows [2, 4, 5, 6, 60, 61, 62] ?_
    simp only [d11r20, ← htl]
    simp
    refine SatD.block ?_ -- 8
    refine SatD.loop (fun k : Nat => ⟨DM.look [(2, .v tn), (4, .ptr 1005 0), (5, .v (.box [ti n.nonterms, ti l.states])), (6, .ptr 1185 0), (60, .v (.sl (intsT l.final))), (61, .v (ti l.final.length)), (62, .v (ti k))],
        obs [(1185, .box [.v (ti (gl + 1)), .aref 2000 0]), (2000, .arr 0 47 5 (edgesT (es6 ++ finL n.nonterms l.states n.start l.final k))), (1005, .box [.v (ti 0), .nil0])], 4000, 1000, []⟩)
      (fun k => k ≤ l.final.length) (fun k => l.final.length - k) 0 (Le.keep ?_ ?_ ?_ ?_) (by simp) (fun k hk => ?_)
    · simp
    · simp
    · simp [finL]
    · simp
    have hnf := h.nfin
    refine SatD.regSeq hΓ follows [2, 4, 5, 6, 60, 61, 62, 63] ?_
    simp [d11r21]
    refine SatD.seq ?_
    refine SatD.cond rfl (fun he => ?_) (fun he => ?_)
    · simp at he
      obtain ⟨c, hcf⟩ : ∃ c, l.final.getD k default = c := ⟨_, rfl⟩
      have hrow := rowAt_ints he
      rw [hcf] at hrow
      obtain ⟨es7, hes7⟩ : ∃ es7, es6 ++ finL n.nonterms l.states n.start l.final k = es7 := ⟨_, rfl⟩
      have les7 : es7.length ≤ 101000000000 := by
        rw [← hes7, List.length_append]
        have := finL_len h k hk
        omega
      rw [hes7]
      refine SatD.skip ?_
      simp
      refine SatD.seq ?_
      refine SatD.block ?_ -- 9
      refine SatD.regSeq hΓ follows [2, 4, 5, 6, 12, 13, 60, 61, 62] ?_
      simp [d11r22, hrow, he]
      refine SatD.regSeq hΓ follows [2, 4, 5, 6, 12, 13, 60, 61, 62, 68] ?_
      simp [d11r23]
      refine SatD.to ⟨DM.look [(2, .v tn), (4, .ptr 1005 0), (5, .v (.box [ti n.nonterms, ti l.states])), (6, .ptr 1185 0), (60, .v (.sl (intsT l.final))), (61, .v (ti l.final.length)), (62, .v (ti k))],
        obs [(1185, .box [.v (ti (gl + 1)), .aref 2000 0]), (2000, .arr 0 47 5 (edgesT (es6 ++ finL n.nonterms l.states n.start l.final (k + 1)))), (1005, .box [.v (ti 0), .nil0])], 6000, 1000, []⟩ ?_ ?_
      · refine SatD.cond rfl (fun h5 => ?_) (fun h5 => ?_)
        · simp at h5
          have hfe : finE n.nonterms l.states n.start l.final k = [⟨gl, [idxI n.nonterms l.states n.start 0 k], c, -1, k⟩] := by unfold finE; rw [hcf, if_pos (by simpa [Inf] using h5), hgl]
          refine SatD.reg hΓ follows [2, 4, 5, 6, 60, 61, 62] ?_
          simp only [d11r24, ← htn]
          simp [Γ11, spec33, fn33, pre33, spec37, fn37, pre37, roomOk, hgl]
          refine ⟨hsm, ⟨hsm, h.start.1, h.start.2, by omega⟩, ⟨by omega, by omega⟩, ?_⟩
          refine Le.keep ?_ ?_ ?_ ?_
          · simp
          · simp
          · rw [finL_succ, ← List.append_assoc, hes7, hfe]
            simp [edgesT, Edge.enc, intsT]
          · simp [← htn]
        · simp at h5
          have hfe : finE n.nonterms l.states n.start l.final k = [] := by unfold finE; rw [hcf, if_neg (by simp [Inf]; omega)]
          refine SatD.skip ⟨rfl, Le.keep ?_ ?_ ?_ ?_⟩
          · simp
          · simp
          · rw [finL_succ, ← List.append_assoc, hes7, hfe]
            simp
          · simp
      · simp
        refine SatD.reg hΓ follows [2, 4, 5, 6, 60, 61, 62] ?_
        simp [d11r25]
        refine ⟨k + 1, Le.keep ?_ ?_ ?_ ?_, ?_, ?_⟩ -- next round
        · simp
        · simp
        · simp
        · simp
          exact (wrap_id (by omega)).symm
        · omega
        · omega
    · simp at he
      have hkF : k = l.final.length := by omega
      refine SatD.exit ?_
      simp
      refine SatD.regSeq hΓ follows [4] ?_
      simp [d11r26]
      refine SatD.ret ?_
      simp [d11res, hyper, hes6, hkF]
end Go.Proofs
