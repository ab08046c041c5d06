/- Insertion sort of keys. Conditions: none. -/
import Derived.Test.YtlimlhidndflhaaKa
import Derived.Test.YtlimlhidndflhaaMg
import Derived.Test.YtlimlhidndflhaaJb
namespace Go.Proofs
open Go.DM Go.DM.Srt
set_option linter.unusedSimpArgs false
set_option linter.unusedVariables false

section
variable (good : List T → Prop) (cmpF : List T → List T → Int)
def cmpSpec : DM.Spec := specP (fun ts => ∃ x y, ts = [.agg x, .agg y] ∧ good x ∧ good y) (fun | [.agg x, .agg y] => ti (cmpF x y) | _ => .bool false) true
/-- The contract of a comparison. -/
structure CmpOk (f : Nat) (n : Nat) : Prop where
  run : ∀ x y, good x → good y → CallsOk Try.prog f [.agg x, .agg y] (ti (cmpF x y))
  row : ∀ x, good x → rowOk n x
abbrev ltF (x y : List T) : Bool := decide (cmpF x y < 0)
def sArr (n : Nat) (objs : Obs) (r ver : Nat) (D : List (List T)) : Prop := ∃ e, objs r = some (.arr ver e n D)

variable {good cmpF}
theorem cmp_env {f n : Nat} (h : CmpOk good cmpF f n) : EnvOk Try.prog (envOf [(f, cmpSpec good cmpF)]) := by
  refine EnvOk.cons EnvOk.nil ?_
  rintro ts ⟨x, y, rfl, h1, h2⟩
  exact ⟨h.run x y h1 h2, fun _ => rfl⟩

theorem rowAt_app {A B : List (List T)} {x : List T} {i : Nat} (h : A.length = i) : DM.rowAt (A ++ (x :: B)) (i : Int) = x := by
  subst h; simp [DM.rowAt]
theorem set_app {A B : List (List T)} {x v : List T} {i : Nat} (h : A.length = i) : (A ++ (x :: B)).set i v = A ++ (v :: B) := by
  subst h; simp
theorem tkm {n : Nat} {x : List T} (h : x.length = n) : (x.map DV.v).take n = x.map DV.v := by subst h; rw [← List.map_take, List.take_length]
theorem dr {n : Nat} {x : List T} (h : x.length = n) : x.drop n = [] := by subst h; simp
theorem tk {n : Nat} {x : List T} (h : x.length = n) : x.take n = x := by subst h; simp

end
structure PQ where
  (P Q : List (List T))
theorem adj {A B : List (List T)} {x y : List T} {k : Nat} (h : A.length = k) {k' : Nat} (hk : k' = k + 1) : DM.rowAt (A ++ (x :: y :: B)) k = x ∧ DM.rowAt (A ++ (x :: y :: B)) k' = y ∧ DM.rowAt ((A ++ (x :: y :: B)).set k y) k' = y ∧
    ((A ++ (x :: y :: B)).set k y).set k' x = A ++ (y :: x :: B) ∧ DM.rowAt ((A ++ (x :: y :: B)).set k' x) k = x ∧ ((A ++ (x :: y :: B)).set k' x).set k y = A ++ (y :: x :: B) := by
  subst h hk
  refine ⟨rowAt_app rfl, ?_, ?_, ?_, ?_, ?_⟩
  · rw [show A ++ (x :: y :: B) = (A ++ [x]) ++ (y :: B) by simp]; exact rowAt_app (by simp)
  · rw [set_app rfl, show A ++ (y :: y :: B) = (A ++ [y]) ++ (y :: B) by simp]; exact rowAt_app (by simp)
  · rw [set_app rfl, show A ++ (y :: y :: B) = (A ++ [y]) ++ (y :: B) by simp, set_app (by simp)]; simp
  · rw [show A ++ (x :: y :: B) = (A ++ [x]) ++ (y :: B) by simp, set_app (by simp), show (A ++ [x]) ++ (x :: B) = A ++ (x :: x :: B) by simp]; exact rowAt_app rfl
  · rw [show A ++ (x :: y :: B) = (A ++ [x]) ++ (y :: B) by simp, set_app (by simp), show (A ++ [x]) ++ (x :: B) = A ++ (x :: x :: B) by simp, set_app rfl]
theorem isortR_snoc (lt : List T → List T → Bool) (l : List (List T)) (x : List T) : isortR lt (l ++ [x]) = insR lt x (isortR lt l) := by simp [isortR]

set_option maxRecDepth 20000 in
set_option maxHeartbeats 4000000 in
theorem t61 {good : List T → Prop} {cmpF : List T → List T → Int} (hc : CmpOk good cmpF 33 3)
    (D : List (List T)) (a b : Nat) (objs : Obs) (r ver e : Nat) (hob : objs r = some (.arr ver e 3 D)) (hrows : ∀ x ∈ D, good x) (h1 : a ≤ b) (h3 : b ≤ D.length) (h4 : D.length ≤ 140737488355328)
    {N : Nat} (hN : ∀ r, N ≤ r → objs r = none) : CallsS Try.prog 61 [.aref r ver, .v (ti a), .v (ti b), .v (.fn (.func 33) [])] objs ⟨True, .v (.tup []), setO objs r (.arr ver e 3 (sortAt (ltF cmpF) D a b))⟩ := by
  have hΓ := cmp_env hc
  have hfr : ∀ o k, N + 1000 ≤ k → setO objs r o k = none := fun o k hk => setO_none hob (hN k (by omega))
  obtain ⟨lt, hlt, hlt2⟩ : ∃ lt : List T → List T → Bool, ltF cmpF = lt ∧ ∀ x y, decide (cmpF x y < 0) = lt x y := ⟨_, rfl, fun _ _ => rfl⟩
  rw [hlt]
  refine c61.okS hN (by simp) (initS_sat ?_)
  rw [setO_self hob]
  simp
  have hD : D = D.take a ++ (seg D a b ++ D.drop b) := by rw [seg_drop D h1, List.take_append_drop]
  have lA : (D.take a).length = a := by simp; omega
  have lX : (seg D a b).length = b - a := by simp; omega
  have lB : (D.drop b).length = D.length - b := by simp
  obtain ⟨A, hA⟩ : ∃ A, D.take a = A := ⟨_, rfl⟩
  obtain ⟨X, hX⟩ : ∃ X, seg D a b = X := ⟨_, rfl⟩
  obtain ⟨B, hB⟩ : ∃ B, D.drop b = B := ⟨_, rfl⟩
  have hfin : sortAt lt D a b = A ++ (isort lt X ++ B) := by unfold sortAt; rw [hA, hX, hB]
  rw [hA, hX, hB] at hD
  rw [hA] at lA
  rw [hX] at lX
  rw [hB] at lB
  have w1 : IntKind.i64.wrap ((a : Int) + 1) = ((a + 1 : Nat) : Int) := by rw [wrap_id (by omega)]; omega
  refine SatD.regSeq hΓ follows [0, 1, 2, 3, 8] ?_
  simp [d61r0, w1]
  refine SatD.block ?_ -- 0
  refine SatD.loop (fun y : PQ => ⟨DM.look [(0, .aref r ver), (1, .v (ti a)), (2, .v (ti b)), (3, .v (.fn (.func 33) [])), (8, .v (ti ((a + 1 + (y.P.length - 1) : Nat) : Int)))], setO objs r (.arr ver e 3 (A ++ (isort lt y.P ++ (y.Q ++ B)))), N + 1000, N, []⟩)
    (fun y => X = y.P ++ y.Q ∧ (y.P = [] → y.Q = [])) (fun y => y.Q.length) ⟨X.take 1, X.drop 1⟩ ?_ ?_ (fun y hy => ?_)
  · have e1 : A ++ (isort lt (X.take 1) ++ (X.drop 1 ++ B)) = D := by
      rw [hD]
      cases X with
      | nil => simp [isort, isortR]
      | cons x X => simp [isort, isortR, insR]
    simp only [e1]
    refine Le.same (hfr _) ?_
    cases X with
    | nil => simp
    | cons x X => simp
  · refine ⟨(List.take_append_drop 1 X).symm, ?_⟩
    cases X with
    | nil => simp
    | cons x X => simp
  obtain ⟨P, Q⟩ := y
  obtain ⟨hy1, hy2⟩ := hy
  simp only at hy1 hy2 ⊢
  have lPQ : P.length + Q.length = b - a := by rw [← lX, hy1]; simp
  obtain ⟨i, hi⟩ : ∃ i, a + 1 + (P.length - 1) = i := ⟨_, rfl⟩
  rw [hi]
  refine SatD.seq ?_
  refine SatD.regSeq hΓ follows [0, 1, 2, 3, 8, 14] ?_
  simp [d61r1]
  refine SatD.cond rfl (fun h => ?_) (fun h => ?_)
  · simp at h
    match P, Q, hy2, lPQ with
    | [], Q, hy2, lPQ => have := hy2 rfl; subst this; simp at lPQ hi; omega
    | p0 :: P0, [], _, lPQ => simp at lPQ hi; omega
    | p0 :: P0, x :: Q, _, lPQ =>
    generalize hPP : p0 :: P0 = P at *
    have hPl : 1 ≤ P.length := by rw [← hPP]; simp
    simp only [List.length_cons] at lPQ
    have hxD : x ∈ D := by rw [hD, hy1]; simp
    have hxo := hc.row x (hrows x hxD)
    refine SatD.skip ?_
    simp
    refine SatD.seq ?_
    refine SatD.block ?_ -- 1
    refine SatD.regSeq hΓ follows [0, 1, 2, 3, 8, 9] ?_
    simp [d61r2]
    refine SatD.block ?_ -- 2
    obtain ⟨acc, hacc⟩ : ∃ acc, isortR lt P = acc := ⟨_, rfl⟩
    have his : isort lt P = acc.reverse := by unfold isort; rw [hacc]
    have lacc : acc.length = P.length := by have := isort_length (lt := lt) P; rw [his] at this; simpa using this
    have macc : ∀ z, z ∈ acc → z ∈ D := by
      intro z hz
      have : z ∈ isort lt P := by rw [his]; simpa using hz
      rw [mem_isort] at this
      rw [hD, hy1]; simp [this]
    rw [his]
    refine SatD.loop (fun y : PQ => ⟨DM.look [(0, .aref r ver), (1, .v (ti a)), (2, .v (ti b)), (3, .v (.fn (.func 33) [])), (8, .v (ti i)), (9, .v (ti ((a + y.P.length : Nat) : Int)))], setO objs r (.arr ver e 3 (A ++ (y.P ++ (x :: (y.Q ++ (Q ++ B)))))), N + 1000, N, []⟩)
      (fun y => acc = y.Q.reverse ++ y.P.reverse ∧ insR lt x acc = y.Q.reverse ++ insR lt x y.P.reverse) (fun y => y.P.length) ⟨acc.reverse, []⟩ ?_ ?_ (fun y hz => ?_)
    · simp only [List.nil_append]
      refine Le.same (hfr _) ?_
      simp [lacc]; omega
    · simp
    obtain ⟨P1, Q1⟩ := y
    obtain ⟨hz1, hz2⟩ := hz
    simp only at hz1 hz2 ⊢
    obtain ⟨k, hk⟩ : ∃ k, a + P1.length = k := ⟨_, rfl⟩
    have l1 : P1.length + Q1.length = P.length := by rw [← lacc, hz1]; simp; omega
    rw [hk]
    refine SatD.seq ?_
    obtain ⟨t, ht⟩ : ∃ t, (match P1.reverse with | [] => false | p :: _ => lt x p) = t := ⟨_, rfl⟩
    obtain ⟨Dc, hDc⟩ : ∃ Dc, A ++ (P1 ++ (x :: (Q1 ++ (Q ++ B)))) = Dc := ⟨_, rfl⟩
    have hl : Dc.length = D.length := by rw [← hDc, hD, hy1]; simp; omega
    have hkD : k < D.length := by
      have : D.length = a + (P.length + (Q.length + 1) + B.length) := by rw [hD, hy1]; simp; omega
      omega
    have hkx : DM.rowAt Dc k = x := by
      rw [← hDc, ← List.append_assoc]; exact rowAt_app (by simp; omega)
    rw [hDc]
    refine SatD.regToS hΓ follows [(0, .aref r ver), (1, .v (ti a)), (2, .v (ti b)), (3, .v (.fn (.func 33) [])), (8, .v (ti i)), (9, .v (ti k)), (34, .v (.bool t))] ?_ ?_
    · rcases List.eq_nil_or_concat P1 with rfl | ⟨P2, p, rfl⟩
      · simp at hk ht
        simp [d61r3, hk, ht]
      · simp only [List.concat_eq_append, List.reverse_append, List.reverse_cons, List.reverse_nil, List.nil_append, List.singleton_append, List.length_append, List.length_cons, List.length_nil] at hk ht hDc hz1
        obtain ⟨k', hk'⟩ : ∃ k', k = k' + 1 := ⟨k - 1, by omega⟩
        have hpD : p ∈ D := macc p (by rw [hz1]; simp)
        have hpo := hc.row p (hrows p hpD)
        have w4 : IntKind.i64.wrap ((k : Int) - 1) = (k' : Int) := by rw [wrap_id (by omega)]; omega
        have hkp : DM.rowAt Dc k' = p := by
          rw [← hDc, show A ++ ((P2 ++ [p]) ++ (x :: (Q1 ++ (Q ++ B)))) = (A ++ P2) ++ (p :: x :: (Q1 ++ (Q ++ B))) by simp]
          exact rowAt_app (by simp; omega)
        simp [d61r3, w4, hkx, hkp, hl, hxo.1, hpo.1, tk hxo.1, tk hpo.1, cmpSpec, hlt2, ht]
        refine ⟨fun _ => ⟨by omega, by omega, ⟨_, _, ⟨rfl, rfl⟩, hrows x hxD, hrows p hpD⟩⟩, fun h => ?_⟩
        omega
    refine SatD.cond rfl (fun h5 => ?_) (fun h5 => ?_)
    · rcases List.eq_nil_or_concat P1 with rfl | ⟨P2, p, rfl⟩
      · simp at ht; rw [h5] at ht; cases ht
      · simp only [List.concat_eq_append, List.reverse_append, List.reverse_cons, List.reverse_nil, List.nil_append, List.singleton_append, List.length_append, List.length_cons, List.length_nil] at hk ht hDc hz1 hz2 l1 ⊢
        rw [h5] at ht
        obtain ⟨k', hk'⟩ : ∃ k', k = k' + 1 := ⟨k - 1, by omega⟩
        have hpD : p ∈ D := macc p (by rw [hz1]; simp)
        have hpo := hc.row p (hrows p hpD)
        have w4 : IntKind.i64.wrap ((k : Int) - 1) = (k' : Int) := by rw [wrap_id (by omega)]; omega
        obtain ⟨q1, q2, _, _, q3, q4⟩ := adj (A := A ++ P2) (B := Q1 ++ (Q ++ B)) (x := p) (y := x) (k := k') (by simp; omega) hk'
        rw [show (A ++ P2) ++ (p :: x :: (Q1 ++ (Q ++ B))) = Dc by rw [← hDc]; simp] at q1 q2 q3 q4
        refine SatD.skip ?_
        simp
        refine SatD.seq ?_
        refine SatD.block ?_ -- 3
        refine SatD.reg hΓ follows [0, 1, 2, 3, 8, 9] ?_
        simp [d61r4, w4, q1, q2, q3, q4, hl, hxo.1, hpo.1, tk hxo.1, tk hpo.1, tkm hxo.1, tkm hpo.1, dr hxo.1, dr hpo.1, pureCells_map hxo.2, pureCells_map hpo.2]
        repeat refine ⟨by omega, ?_⟩
        refine SatD.reg hΓ follows [0, 1, 2, 3, 8, 9] ?_
        simp [d61r5, w4]
        refine ⟨⟨P2, p :: Q1⟩, ?_, ⟨?_, ?_⟩, ?_⟩
        · rw [show A ++ (P2 ++ x :: (p :: Q1 ++ (Q ++ B))) = A ++ (P2 ++ x :: p :: (Q1 ++ (Q ++ B))) by simp]
          refine Le.same (hfr _) ?_
          simp; omega
        · simp [hz1]
        · rw [hz2, insR, if_pos ht]; simp
        · simp
    · have hins : insR lt x P1.reverse = x :: P1.reverse := by
        cases hr : P1.reverse with
        | nil => rfl
        | cons p P2 =>
          rw [hr] at ht
          simp only at ht
          rw [insR, if_neg (by rw [ht, h5]; simp)]
      rw [hins] at hz2
      have hnew : isort lt (P ++ [x]) = P1 ++ x :: Q1 := by
        unfold isort
        rw [isortR_snoc, hacc, hz2]; simp
      refine SatD.exit ?_
      simp
      refine SatD.reg hΓ follows [0, 1, 2, 3, 8] ?_
      simp [d61r6]
      refine ⟨⟨P ++ [x], Q⟩, ?_, ⟨?_, ?_⟩, ?_⟩
      · rw [show A ++ (isort lt (P ++ [x]) ++ (Q ++ B)) = Dc by rw [hnew, ← hDc]; simp]
        refine Le.same (hfr _) ?_
        simp
        rw [wrap_id (by omega)]; omega
      · rw [hy1]; simp
      · simp
      · simp
  · simp at h
    have hQ : Q = [] := by
      by_cases e : P = []
      · exact hy2 e
      · have : 1 ≤ P.length := List.length_pos_iff.2 e
        exact List.eq_nil_of_length_eq_zero (by omega)
    subst hQ
    rw [List.append_nil] at hy1
    subst hy1
    refine SatD.exit ?_
    simp [d61res, hfin]
end Go.Proofs
/- How long a list may be sorted. Conditions: none. -/
namespace Go.Proofs
open Go.DM Go.DM.Srt
set_option linter.unusedSimpArgs false
set_option linter.unusedVariables false

/-- How long a list the contract of sorting speaks of. -/
def sortBound : Nat := 1000000000
end Go.Proofs
/- Keys in order: plain laws. Conditions: none. -/
namespace Go.Proofs
open Go.DM Go.DM.Srt
set_option linter.unusedSimpArgs false
set_option linter.unusedVariables false

def keyRow (a : Arc) : List T := [ti a.f, ti a.t, ti a.term]
def goodK (r : List T) : Prop := ∃ f t x : Int, r = [ti f, ti t, ti x]
theorem cmp_ok : CmpOk goodK cmpKey 33 3 := by
  refine ⟨?_, ?_⟩
  · rintro _ _ ⟨a, b, c, rfl⟩ ⟨d, e, f, rfl⟩
    exact t33 a b c d e f
  · rintro _ ⟨a, b, c, rfl⟩
    exact ⟨rfl, by simp [leafT]⟩

/-- The numbers in a row. -/
def ints3 (r : List T) : Int × Int × Int := (unti (r.getD 0 (ti 0)), unti (r.getD 1 (ti 0)), unti (r.getD 2 (ti 0)))
def lt3 (a b : Int × Int × Int) : Prop := a.1 < b.1 ∨ (a.1 = b.1 ∧ (a.2.1 < b.2.1 ∨ (a.2.1 = b.2.1 ∧ a.2.2 < b.2.2)))
theorem or3 (a b c d e f : Int) : orI [cmpI a d, cmpI b e, cmpI c f] < 0 ↔ lt3 (a, b, c) (d, e, f) := by
  simp only [orI, cmpI, lt3]
  by_cases h1 : a < d
  · simp [h1]
  · by_cases h2 : d < a
    · have : a ≠ d := by omega
      simp [h1, h2, this]
    · have : a = d := by omega
      subst this
      by_cases h3 : b < e
      · simp [h3]
      · by_cases h4 : e < b
        · have : b ≠ e := by omega
          simp [h3, h4, this]
        · have : b = e := by omega
          subst this
          by_cases h5 : c < f
          · simp [h5]
          · by_cases h6 : f < c
            · have : ¬ c < f := by omega
              simp [h5, h6]
            · simp [h5, h6]
theorem ltF_iff (x y : List T) : ltF cmpKey x y = true ↔ lt3 (ints3 x) (ints3 y) := by
  simp only [ltF, decide_eq_true_eq]
  exact or3 _ _ _ _ _ _
theorem ltF_false (x y : List T) : ltF cmpKey x y = false ↔ ¬ lt3 (ints3 x) (ints3 y) := by
  rw [← ltF_iff]; simp
theorem swoK : SWO (ltF cmpKey) := by
  refine ⟨fun x => ?_, fun x y z h1 h2 => ?_, fun x y z h1 h2 => ?_⟩
  · rw [ltF_false]; unfold lt3; omega
  · rw [ltF_iff] at h1 h2 ⊢
    unfold lt3 at h1 h2 ⊢; omega
  · rw [ltF_false] at h1 h2 ⊢
    unfold lt3 at h1 h2 ⊢; omega
theorem eqvK {x y : List T} (h : eqv (ltF cmpKey) x y = true) : ints3 x = ints3 y := by
  simp only [eqv, Bool.and_eq_true, Bool.not_eq_true', ltF_false] at h
  unfold lt3 at h
  generalize ints3 x = p at h ⊢
  generalize ints3 y = q at h ⊢
  obtain ⟨a1, a2, a3⟩ := p
  obtain ⟨b1, b2, b3⟩ := q
  simp only [Prod.mk.injEq] at h ⊢
  omega
theorem goodK_ext {x y : List T} (hx : goodK x) (hy : goodK y) (h : ints3 x = ints3 y) : x = y := by
  obtain ⟨a, b, c, rfl⟩ := hx
  obtain ⟨d, e, f, rfl⟩ := hy
  simp [ints3, unti] at h
  simp [h]
theorem filter_small {l : List (List T)} (hg : ∀ x ∈ l, goodK x) (hn : l.Nodup) (z : List T) : (l.filter (eqv (ltF cmpKey) z)).length ≤ 1 := by
  have hn' : (l.filter (eqv (ltF cmpKey) z)).Nodup := hn.filter _
  have hall : ∀ x ∈ l.filter (eqv (ltF cmpKey) z), goodK x ∧ ints3 x = ints3 z := by
    intro x hx
    rw [List.mem_filter] at hx
    exact ⟨hg x hx.1, (eqvK hx.2).symm⟩
  match hl : l.filter (eqv (ltF cmpKey) z), hn', hall with
  | [], _, _ => simp
  | [a], _, _ => simp
  | a :: b :: l, hn', hall =>
    exfalso
    have h1 := hall a (by simp)
    have h2 := hall b (by simp)
    have := goodK_ext h1.1 h2.1 (h1.2.trans h2.2.symm)
    subst this
    simp at hn'
/-- Lists of the same keys, each once, come out alike. -/
theorem isort_perm {l1 l2 : List (List T)} (hp : l1.Perm l2) (hg : ∀ x ∈ l2, goodK x) (hn : l2.Nodup) : isort (ltF cmpKey) l1 = isort (ltF cmpKey) l2 := by
  refine isort_eq swoK (isort_sorted swoK l2) fun x => ?_
  rw [isort_filter swoK]
  have h1 := hp.filter (eqv (ltF cmpKey) x)
  have h2 := filter_small hg hn x
  cases h : l2.filter (eqv (ltF cmpKey) x) with
  | nil => rw [h] at h1; exact (List.Perm.eq_nil h1).symm
  | cons a t =>
    rw [h] at h1 h2
    have : t = [] := by cases t with
      | nil => rfl
      | cons b t => simp at h2
    subst this
    exact (List.perm_singleton.1 h1).symm

/-! the candidates' keys -/
theorem keyRow_inj {a b : Arc} : keyRow a = keyRow b ↔ sameKey a b = true := by simp [keyRow, sameKey]
theorem addL_nodup {al : List Arc} (h : (al.map keyRow).Nodup) (a : Arc) : ((addL al a).map keyRow).Nodup := by
  unfold addL
  split
  · cases hf : al.findIdx? (sameKey a) with
    | none =>
      simp only
      rw [List.map_append, List.nodup_append]
      refine ⟨h, by simp, ?_⟩
      intro x hx y hy
      simp only [List.map_cons, List.map_nil, List.mem_singleton] at hy
      subst hy
      obtain ⟨b, hb, rfl⟩ := List.mem_map.1 hx
      intro e
      rw [List.findIdx?_eq_none_iff] at hf
      have := hf b hb
      rw [keyRow_inj.1 e.symm] at this
      cases this
    | some i =>
      simp only
      split
      · have hi := idx_bound hf
        rw [List.findIdx?_eq_some_iff_getElem] at hf
        have hk : keyRow a = keyRow al[i] := keyRow_inj.2 hf.2.1
        rw [List.map_set, hk]
        have : (al.map keyRow).set i (keyRow al[i]) = al.map keyRow := by
          apply List.ext_getElem
          · simp
          · intro k h1 h2
            rw [List.getElem_set]
            split
            · rename_i e; subst e; simp
            · rfl
        rw [this]
        exact h
      · exact h
  · exact h
theorem addAll_nodup (cs : List Arc) : ∀ {al : List Arc}, (al.map keyRow).Nodup → ((addAll al cs).map keyRow).Nodup := by
  induction cs with
  | nil => intro al h; exact h
  | cons c cs ih => intro al h; exact ih (addL_nodup h c)

/-- The arc of a key. -/
def look3 (al : List Arc) (r : List T) : Arc := (al.find? (sameKey ⟨(ints3 r).1, (ints3 r).2.1, (ints3 r).2.2, 0, []⟩)).getD default
theorem find_idx {α : Type} (p : α → Bool) (l : List α) : l.find? p = (l.findIdx? p).bind fun i => l[i]? := by
  induction l with
  | nil => rfl
  | cons x l ih =>
    rw [List.find?_cons, List.findIdx?_cons]
    cases h : p x with
    | true => simp
    | false => simp [ih]; cases l.findIdx? p <;> simp
theorem look3_mem {al : List Arc} {a : Arc} (h : a ∈ al) : sameKey a (look3 al (keyRow a)) = true ∧ look3 al (keyRow a) ∈ al ∧ ∃ i, findE a.key (entries al) = some (i, (look3 al (keyRow a)).key, .v (.agg (look3 al (keyRow a)).enc)) := by
  have e : sameKey ⟨(ints3 (keyRow a)).1, (ints3 (keyRow a)).2.1, (ints3 (keyRow a)).2.2, 0, []⟩ = sameKey a := by
    funext b
    simp [sameKey, ints3, keyRow, unti]
  unfold look3
  rw [e, findE_at, entries_idx, find_idx]
  cases hf : al.findIdx? (sameKey a) with
  | none =>
    rw [List.findIdx?_eq_none_iff] at hf
    have := hf a h
    simp [sameKey] at this
  | some i =>
    have hi := idx_bound hf
    rw [List.findIdx?_eq_some_iff_getElem] at hf
    simp only [Option.bind_some, entries_get, List.getElem?_eq_getElem hi, Option.map_some, Option.getD_some]
    exact ⟨hf.2.1, List.getElem_mem hi, i, rfl⟩
/-- The arcs in the order of their keys. -/
def sortArcs (al : List Arc) : List Arc := (isort (ltF cmpKey) (al.map keyRow)).map (look3 al)
theorem seen_perm {al : List Arc} {sn : List Nat} (h1 : sn.Nodup) (h2 : ∀ i ∈ sn, i < al.length) (h3 : ∀ i, i < al.length → i ∈ sn) : (sn.map fun i => keyRow (al.getD i default)).Perm (al.map keyRow) := by
  have hp : sn.Perm (List.range al.length) := (List.perm_ext_iff_of_nodup h1 List.nodup_range).2 fun i => by
    rw [List.mem_range]; exact ⟨h2 i, h3 i⟩
  have := hp.map fun i => keyRow (al.getD i default)
  refine this.trans (List.Perm.of_eq ?_)
  apply List.ext_getElem
  · simp
  · intro k k1 k2
    simp at k2
    simp [k2]
end Go.Proofs
