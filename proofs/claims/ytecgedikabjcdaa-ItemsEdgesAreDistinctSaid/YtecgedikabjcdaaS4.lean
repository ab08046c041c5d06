import Derived.Test.YtecgedikabjcdaaS3
namespace Go.Proofs
open Go.DM Go.DM.Srt
set_option linter.unusedSimpArgs false
set_option linter.unusedVariables false

theorem isortR_snoc (lt : List T → List T → Bool) (l : List (List T)) (x : List T) : isortR lt (l ++ [x]) = insR lt x (isortR lt l) := by simp [isortR]

set_option maxRecDepth 20000 in
set_option maxHeartbeats 4000000 in
theorem t49 {good : List T → Prop} {cmpF : List T → List T → Int} (hc : CmpOk good cmpF 36 5)
    (D : List (List T)) (a b : Nat) (objs : Obs) (r ver e : Nat) (hob : objs r = some (.arr ver e 5 D)) (hrows : ∀ x ∈ D, good x) (h1 : a ≤ b) (h3 : b ≤ D.length) (h4 : D.length ≤ 140737488355328)
    {N : Nat} (hN : ∀ r, N ≤ r → objs r = none) : CallsS Try.prog 49 [.aref r ver, .v (ti a), .v (ti b), .v (.fn (.func 36) [])] objs ⟨True, .v (.tup []), setO objs r (.arr ver e 5 (sortAt (ltF cmpF) D a b))⟩ := by
  have hΓ := cmp_env hc
  have hfr : ∀ o k, N + 1000 ≤ k → setO objs r o k = none := fun o k hk => setO_none hob (hN k (by omega))
  obtain ⟨lt, hlt, hlt2⟩ : ∃ lt : List T → List T → Bool, ltF cmpF = lt ∧ ∀ x y, decide (cmpF x y < 0) = lt x y := ⟨_, rfl, fun _ _ => rfl⟩
  rw [hlt]
  refine c49.okS hN (by simp) (initS_sat ?_)
  rw [setO_self hob]
  simp
  have hD : D = D.take a ++ (seg D a b ++ D.drop b) := by rw [seg_drop D h1, List.take_append_drop]
  have lA : (D.take a).length = a := by simp; omega
  have lX : (seg D a b).length = b - a := by simp; omega
  have lB : (D.drop b).length = D.length - b := by simp
  obtain ⟨A, hA⟩ : ∃ A, D.take a = A := ⟨_, rfl⟩
  obtain ⟨X, hX⟩ : ∃ X, seg D a b = X := ⟨_, rfl⟩
  obtain ⟨B, hB⟩ : ∃ B, D.drop b = B := ⟨_, rfl⟩
  have hfin : sortAt lt D a b = A ++ (isort lt X ++ B) := by unfold sortAt; rw [hA, hX, hB]
  rw [hA, hX, hB] at hD
  rw [hA] at lA
  rw [hX] at lX
  rw [hB] at lB
  have w1 : IntKind.i64.wrap ((a : Int) + 1) = ((a + 1 : Nat) : Int) := by rw [wrap_id (by omega)]; omega
  refine SatD.regSeq hΓ follows [0, 1, 2, 3, 8] ?_
  simp [d49r0, w1]
  refine SatD.block ?_ -- 0
  refine SatD.loop (fun y : PQ => ⟨DM.look [(0, .aref r ver), (1, .v (ti a)), (2, .v (ti b)), (3, .v (.fn (.func 36) [])), (8, .v (ti ((a + 1 + (y.P.length - 1) : Nat) : Int)))], setO objs r (.arr ver e 5 (A ++ (isort lt y.P ++ (y.Q ++ B)))), N + 1000, N, []⟩)
    (fun y => X = y.P ++ y.Q ∧ (y.P = [] → y.Q = [])) (fun y => y.Q.length) ⟨X.take 1, X.drop 1⟩ ?_ ?_ (fun y hy => ?_)
  · have e1 : A ++ (isort lt (X.take 1) ++ (X.drop 1 ++ B)) = D := by
      rw [hD]
      cases X with
      | nil => simp [isort, isortR]
      | cons x X => simp [isort, isortR, insR]
    simp only [e1]
    refine Le.same (hfr _) ?_
    cases X with
    | nil => simp
    | cons x X => simp
  · refine ⟨(List.take_append_drop 1 X).symm, ?_⟩
    cases X with
    | nil => simp
    | cons x X => simp
  obtain ⟨P, Q⟩ := y
  obtain ⟨hy1, hy2⟩ := hy
  simp only at hy1 hy2 ⊢
  have lPQ : P.length + Q.length = b - a := by rw [← lX, hy1]; simp
  obtain ⟨i, hi⟩ : ∃ i, a + 1 + (P.length - 1) = i := ⟨_, rfl⟩
  rw [hi]
  refine SatD.seq ?_
  refine SatD.regSeq hΓ follows [0, 1, 2, 3, 8, 14] ?_
  simp [d49r1]
  refine SatD.cond rfl (fun h => ?_) (fun h => ?_)
  · simp at h
    match P, Q, hy2, lPQ with
    | [], Q, hy2, lPQ => have := hy2 rfl; subst this; simp at lPQ hi; omega
    | p0 :: P0, [], _, lPQ => simp at lPQ hi; omega
    | p0 :: P0, x :: Q, _, lPQ =>
    generalize hPP : p0 :: P0 = P at *
    have hPl : 1 ≤ P.length := by rw [← hPP]; simp
    simp only [List.length_cons] at lPQ
    have hxD : x ∈ D := by rw [hD, hy1]; simp
    have hxo := hc.row x (hrows x hxD)
    refine SatD.skip ?_
    simp
    refine SatD.seq ?_
    refine SatD.block ?_ -- 1
    refine SatD.regSeq hΓ follows [0, 1, 2, 3, 8, 9] ?_
    simp [d49r2]
    refine SatD.block ?_ -- 2
    obtain ⟨acc, hacc⟩ : ∃ acc, isortR lt P = acc := ⟨_, rfl⟩
    have his : isort lt P = acc.reverse := by unfold isort; rw [hacc]
    have lacc : acc.length = P.length := by have := isort_length (lt := lt) P; rw [his] at this; simpa using this
    have macc : ∀ z, z ∈ acc → z ∈ D := by
      intro z hz
      have : z ∈ isort lt P := by rw [his]; simpa using hz
      rw [mem_isort] at this
      rw [hD, hy1]; simp [this]
    rw [his]
    refine SatD.loop (fun y : PQ => ⟨DM.look [(0, .aref r ver), (1, .v (ti a)), (2, .v (ti b)), (3, .v (.fn (.func 36) [])), (8, .v (ti i)), (9, .v (ti ((a + y.P.length : Nat) : Int)))], setO objs r (.arr ver e 5 (A ++ (y.P ++ (x :: (y.Q ++ (Q ++ B)))))), N + 1000, N, []⟩)
      (fun y => acc = y.Q.reverse ++ y.P.reverse ∧ insR lt x acc = y.Q.reverse ++ insR lt x y.P.reverse) (fun y => y.P.length) ⟨acc.reverse, []⟩ ?_ ?_ (fun y hz => ?_)
    · simp only [List.nil_append]
      refine Le.same (hfr _) ?_
      simp [lacc]; omega
    · simp
    obtain ⟨P1, Q1⟩ := y
    obtain ⟨hz1, hz2⟩ := hz
    simp only at hz1 hz2 ⊢
    obtain ⟨k, hk⟩ : ∃ k, a + P1.length = k := ⟨_, rfl⟩
    have l1 : P1.length + Q1.length = P.length := by rw [← lacc, hz1]; simp; omega
    rw [hk]
    refine SatD.seq ?_
    obtain ⟨t, ht⟩ : ∃ t, (match P1.reverse with | [] => false | p :: _ => lt x p) = t := ⟨_, rfl⟩
    obtain ⟨Dc, hDc⟩ : ∃ Dc, A ++ (P1 ++ (x :: (Q1 ++ (Q ++ B)))) = Dc := ⟨_, rfl⟩
    have hl : Dc.length = D.length := by rw [← hDc, hD, hy1]; simp; omega
    have hkD : k < D.length := by
      have : D.length = a + (P.length + (Q.length + 1) + B.length) := by rw [hD, hy1]; simp; omega
      omega
    have hkx : DM.rowAt Dc k = x := by
      rw [← hDc, ← List.append_assoc]; exact rowAt_app (by simp; omega)
    rw [hDc]
    refine SatD.regToS hΓ follows [(0, .aref r ver), (1, .v (ti a)), (2, .v (ti b)), (3, .v (.fn (.func 36) [])), (8, .v (ti i)), (9, .v (ti k)), (34, .v (.bool t))] ?_ ?_
    · rcases List.eq_nil_or_concat P1 with rfl | ⟨P2, p, rfl⟩
      · simp at hk ht
        simp [d49r3, hk, ht]
      · simp only [List.concat_eq_append, List.reverse_append, List.reverse_cons, List.reverse_nil, List.nil_append, List.singleton_append, List.length_append, List.length_cons, List.length_nil] at hk ht hDc hz1
        obtain ⟨k', hk'⟩ : ∃ k', k = k' + 1 := ⟨k - 1, by omega⟩
        have hpD : p ∈ D := macc p (by rw [hz1]; simp)
        have hpo := hc.row p (hrows p hpD)
        have w4 : IntKind.i64.wrap ((k : Int) - 1) = (k' : Int) := by rw [wrap_id (by omega)]; omega
        have hkp : DM.rowAt Dc k' = p := by
          rw [← hDc, show A ++ ((P2 ++ [p]) ++ (x :: (Q1 ++ (Q ++ B)))) = (A ++ P2) ++ (p :: x :: (Q1 ++ (Q ++ B))) by simp]
          exact rowAt_app (by simp; omega)
        simp [d49r3, w4, hkx, hkp, hl, hxo.1, hpo.1, tk hxo.1, tk hpo.1, cmpSpec, hlt2, ht]
        refine ⟨fun _ => ⟨by omega, by omega, ⟨_, _, ⟨rfl, rfl⟩, hrows x hxD, hrows p hpD⟩⟩, fun h => ?_⟩
        omega
    refine SatD.cond rfl (fun h5 => ?_) (fun h5 => ?_)
    · rcases List.eq_nil_or_concat P1 with rfl | ⟨P2, p, rfl⟩
      · simp at ht; rw [h5] at ht; cases ht
      · simp only [List.concat_eq_append, List.reverse_append, List.reverse_cons, List.reverse_nil, List.nil_append, List.singleton_append, List.length_append, List.length_cons, List.length_nil] at hk ht hDc hz1 hz2 l1 ⊢
        rw [h5] at ht
        obtain ⟨k', hk'⟩ : ∃ k', k = k' + 1 := ⟨k - 1, by omega⟩
        have hpD : p ∈ D := macc p (by rw [hz1]; simp)
        have hpo := hc.row p (hrows p hpD)
        have w4 : IntKind.i64.wrap ((k : Int) - 1) = (k' : Int) := by rw [wrap_id (by omega)]; omega
        obtain ⟨q1, q2, _, _, q3, q4⟩ := adj (A := A ++ P2) (B := Q1 ++ (Q ++ B)) (x := p) (y := x) (k := k') (by simp; omega) hk'
        rw [show (A ++ P2) ++ (p :: x :: (Q1 ++ (Q ++ B))) = Dc by rw [← hDc]; simp] at q1 q2 q3 q4
        refine SatD.skip ?_
        simp
        refine SatD.seq ?_
        refine SatD.block ?_ -- 3
        refine SatD.reg hΓ follows [0, 1, 2, 3, 8, 9] ?_
        simp [d49r4, w4, q1, q2, q3, q4, hl, hxo.1, hpo.1, tk hxo.1, tk hpo.1, tkm hxo.1, tkm hpo.1, dr hxo.1, dr hpo.1, pureCells_map hxo.2, pureCells_map hpo.2]
        repeat refine ⟨by omega, ?_⟩
        refine SatD.reg hΓ follows [0, 1, 2, 3, 8, 9] ?_
        simp [d49r5, w4]
        refine ⟨⟨P2, p :: Q1⟩, ?_, ⟨?_, ?_⟩, ?_⟩
        · rw [show A ++ (P2 ++ x :: (p :: Q1 ++ (Q ++ B))) = A ++ (P2 ++ x :: p :: (Q1 ++ (Q ++ B))) by simp]
          refine Le.same (hfr _) ?_
          simp; omega
        · simp [hz1]
        · rw [hz2, insR, if_pos ht]; simp
        · simp
    · have hins : insR lt x P1.reverse = x :: P1.reverse := by
        cases hr : P1.reverse with
        | nil => rfl
        | cons p P2 =>
          rw [hr] at ht
          simp only at ht
          rw [insR, if_neg (by rw [ht, h5]; simp)]
      rw [hins] at hz2
      have hnew : isort lt (P ++ [x]) = P1 ++ x :: Q1 := by
        unfold isort
        rw [isortR_snoc, hacc, hz2]; simp
      refine SatD.exit ?_
      simp
      refine SatD.reg hΓ follows [0, 1, 2, 3, 8] ?_
      simp [d49r6]
      refine ⟨⟨P ++ [x], Q⟩, ?_, ⟨?_, ?_⟩, ?_⟩
      · rw [show A ++ (isort lt (P ++ [x]) ++ (Q ++ B)) = Dc by rw [hnew, ← hDc]; simp]
        refine Le.same (hfr _) ?_
        simp
        rw [wrap_id (by omega)]; omega
      · rw [hy1]; simp
      · simp
      · simp
  · simp at h
    have hQ : Q = [] := by
      by_cases e : P = []
      · exact hy2 e
      · have : 1 ≤ P.length := List.length_pos_iff.2 e
        exact List.eq_nil_of_length_eq_zero (by omega)
    subst hQ
    rw [List.append_nil] at hy1
    subst hy1
    refine SatD.exit ?_
    simp [d49res, hfin]
end Go.Proofs
