import Derived.Test.YtecgedikabjcdaaSa
import Derived.Test.YtecgedikabjcdaaMg
namespace Go.Proofs
open Go.DM Go.DM.Srt
set_option linter.unusedSimpArgs false
set_option linter.unusedVariables false

theorem isortR_snoc (lt : List T → List T → Bool) (l : List (List T)) (x : List T) : isortR lt (l ++ [x]) = insR lt x (isortR lt l) := by simp [isortR]

set_option maxRecDepth 20000 in
set_option maxHeartbeats 4000000 in
theorem t49 {good : List T → Prop} {cmpF : List T → List T → Int} (hc : CmpOk good cmpF 36 5)
    (D : List (List T)) (a b : Nat) (objs : Obs) (r ver e : Nat) (hob : objs r = some (.arr ver e 5 D)) (hrows : ∀ x ∈ D, good x) (h1 : a ≤ b) (h3 : b ≤ D.length) (h4 : D.length ≤ 140737488355328)
    {N : Nat} (hN : ∀ r, N ≤ r → objs r = none) : CallsS Try.prog 49 [.aref r ver, .v (ti a), .v (ti b), .v (.fn (.func 36) [])] objs ⟨True, .v (.tup []), setO objs r (.arr ver e 5 (sortAt (ltF cmpF) D a b))⟩ := by
  have hΓ := cmp_env hc
  have hfr : ∀ o k, N + 1000 ≤ k → setO objs r o k = none := fun o k hk => setO_none hob (hN k (by omega))
  obtain ⟨lt, hlt, hlt2⟩ : ∃ lt : List T → List T → Bool, ltF cmpF = lt ∧ ∀ x y, decide (cmpF x y < 0) = lt x y := ⟨_, rfl, fun _ _ => rfl⟩
  rw [hlt]
  refine c49.okS hN (by simp) (initS_sat ?_)
  rw [setO_self hob]
  simp
  have hD : D = D.take a ++ (seg D a b ++ D.drop b) := by rw [seg_drop D h1, List.take_append_drop]
  have lA : (D.take a).length = a := by simp; omega
  have lX : (seg D a b).length = b - a := by simp; omega
  have lB : (D.drop b).length = D.length - b := by simp
  obtain ⟨A, hA⟩ : ∃ A, D.take a = A := ⟨_, rfl⟩
  obtain ⟨X, hX⟩ : ∃ X, seg D a b = X := ⟨_, rfl⟩
  obtain ⟨B, hB⟩ : ∃ B, D.drop b = B := ⟨_, rfl⟩
  have hfin : sortAt lt D a b = A ++ (isort lt X ++ B) := by unfold sortAt; rw [hA, hX, hB]
  rw [hA, hX, hB] at hD
  rw [hA] at lA
  rw [hX] at lX
  rw [hB] at lB
  have w1 : IntKind.i64.wrap ((a : Int) + 1) = ((a + 1 : Nat) : Int) := by rw [wrap_id (by omega)]; omega
  refine SatD.regSeq hΓ follows [0, 1, 2, 3, 8] ?_
  simp [d49r0, w1]
  refine SatD.block ?_ -- 0
  refine SatD.loop (fun y : PQ => ⟨DM.look [(0, .aref r ver), (1, .v (ti a)), (2, .v (ti b)), (3, .v (.fn (.func 36) [])), (8, .v (ti ((a + 1 + (y.P.length - 1) : Nat) : Int)))], setO objs r (.arr ver e 5 (A ++ (isort lt y.P ++ (y.Q ++ B)))), N + 1000, N, []⟩)
    (fun y => X = y.P ++ y.Q ∧ (y.P = [] → y.Q = [])) (fun y => y.Q.length) ⟨X.take 1, X.drop 1⟩ ?_ ?_ (fun y hy => ?_)
  · have e1 : A ++ (isort lt (X.take 1) ++ (X.drop 1 ++ B)) = D := by
      rw [hD]
      cases X with
      | nil => simp [isort, isortR]
      | cons x X => simp [isort, isortR, insR]
    simp only [e1]
    refine Le.same (hfr _) ?_
    cases X with
    | nil => simp
    | cons x X => simp
  · refine ⟨(List.take_append_drop 1 X).symm, ?_⟩
    cases X with
    | nil => simp
    | cons x X => simp
  obtain ⟨P, Q⟩ := y
  obtain ⟨hy1, hy2⟩ := hy
  simp only at hy1 hy2 ⊢
  have lPQ : P.length + Q.length = b - a := by rw [← lX, hy1]; simp
  obtain ⟨i, hi⟩ : ∃ i, a + 1 + (P.length - 1) = i := ⟨_, rfl⟩
  rw [hi]
  refine SatD.seq ?_
  refine SatD.regSeq hΓ follows [0, 1, 2, 3, 8, 14] ?_
  simp [d49r1]
  refine SatD.cond rfl (fun h => ?_) (fun h => ?_)
  · simp at h
    match P, Q, hy2, lPQ with
    | [], Q, hy2, lPQ => have := hy2 rfl; subst this; simp at lPQ hi; omega
    | p0 :: P0, [], _, lPQ => simp at lPQ hi; omega
    | p0 :: P0, x :: Q, _, lPQ =>
    generalize hPP : p0 :: P0 = P at *
    have hPl : 1 ≤ P.length := by rw [← hPP]; simp
    simp only [List.length_cons] at lPQ
    have hxD : x ∈ D := by rw [hD, hy1]; simp
    have hxo := hc.row x (hrows x hxD)
    refine SatD.skip ?_
    simp
    refine SatD.seq ?_
    refine SatD.block ?_ -- 1
    refine SatD.regSeq hΓ follows [0, 1, 2, 3, 8, 9] ?_
    simp [d49r2]
    refine SatD.block ?_ -- 2
    obtain ⟨acc, hacc⟩ : ∃ acc, isortR lt P = acc := ⟨_, rfl⟩
    have his : isort lt P = acc.reverse := by unfold isort; rw [hacc]
    have lacc : acc.length = P.length := by have := isort_length (lt := lt) P; rw [his] at this; simpa using this
    have macc : ∀ z, z ∈ acc → z ∈ D := by
      intro z hz
      have : z ∈ isort lt P := by rw [his]; simpa using hz
      rw [mem_isort] at this
      rw [hD, hy1]; simp [this]
    rw [his]
    refine SatD.loop (fun y : PQ => ⟨DM.look [(0, .aref r ver), (1, .v (ti a)), (2, .v (ti b)), (3, .v (.fn (.func 36) [])), (8, .v (ti i)), (9, .v (ti ((a + y.P.length : Nat) : Int)))], setO objs r (.arr ver e 5 (A ++ (y.P ++ (x :: (y.Q ++ (Q ++ B)))))), N + 1000, N, []⟩)
      (fun y => acc = y.Q.reverse ++ y.P.reverse ∧ insR lt x acc = y.Q.reverse ++ insR lt x y.P.reverse) (fun y => y.P.length) ⟨acc.reverse, []⟩ ?_ ?_ (fun y hz => ?_)
    · simp only [List.nil_append]
      refine Le.same (hfr _) ?_
      simp [lacc]; omega
    · simp
    obtain ⟨P1, Q1⟩ := y
    obtain ⟨hz1, hz2⟩ := hz
    simp only at hz1 hz2 ⊢
    obtain ⟨k, hk⟩ : ∃ k, a + P1.length = k := ⟨_, rfl⟩
    have l1 : P1.length + Q1.length = P.length := by rw [← lacc, hz1]; simp; omega
    rw [hk]
    refine SatD.seq ?_
    obtain ⟨t, ht⟩ : ∃ t, (match P1.reverse with | [] => false | p :: _ => lt x p) = t := ⟨_, rfl⟩
    obtain ⟨Dc, hDc⟩ : ∃ Dc, A ++ (P1 ++ (x :: (Q1 ++ (Q ++ B)))) = Dc := ⟨_, rfl⟩
    have hl : Dc.length = D.length := by rw [← hDc, hD, hy1]; simp; omega
    have hkD : k < D.length := by
      have : D.length = a + (P.length + (Q.length + 1) + B.length) := by rw [hD, hy1]; simp; omega
      omega
    have hkx : DM.rowAt Dc k = x := by
      rw [← hDc, ← List.append_assoc]; exact rowAt_app (by simp; omega)
    rw [hDc]
    refine SatD.regToS hΓ follows [(0, .aref r ver), (1, .v (ti a)), (2, .v (ti b)), (3, .v (.fn (.func 36) [])), (8, .v (ti i)), (9, .v (ti k)), (34, .v (.bool t))] ?_ ?_
    · rcases List.eq_nil_or_concat P1 with rfl | ⟨P2, p, rfl⟩
      · simp at hk ht
        simp [d49r3, hk, ht]
      · simp only [List.concat_eq_append, List.reverse_append, List.reverse_cons, List.reverse_nil, List.nil_append, List.singleton_append, List.length_append, List.length_cons, List.length_nil] at hk ht hDc hz1
        obtain ⟨k', hk'⟩ : ∃ k', k = k' + 1 := ⟨k - 1, by omega⟩
        have hpD : p ∈ D := macc p (by rw [hz1]; simp)
        have hpo := hc.row p (hrows p hpD)
        have w4 : IntKind.i64.wrap ((k : Int) - 1) = (k' : Int) := by rw [wrap_id (by omega)]; omega
        have hkp : DM.rowAt Dc k' = p := by
          rw [← hDc, show A ++ ((P2 ++ [p]) ++ (x :: (Q1 ++ (Q ++ B)))) = (A ++ P2) ++ (p :: x :: (Q1 ++ (Q ++ B))) by simp]
          exact rowAt_app (by simp; omega)
        simp [d49r3, w4, hkx, hkp, hl, hxo.1, hpo.1, tk hxo.1, tk hpo.1, cmpSpec, hlt2, ht]
        refine ⟨fun _ => ⟨by omega, by omega, ⟨_, _, ⟨rfl, rfl⟩, hrows x hxD, hrows p hpD⟩⟩, fun h => ?_⟩
        omega
    refine SatD.cond rfl (fun h5 => ?_) (fun h5 => ?_)
    · rcases List.eq_nil_or_concat P1 with rfl | ⟨P2, p, rfl⟩
      · simp at ht; rw [h5] at ht; cases ht
      · simp only [List.concat_eq_append, List.reverse_append, List.reverse_cons, List.reverse_nil, List.nil_append, List.singleton_append, List.length_append, List.length_cons, List.length_nil] at hk ht hDc hz1 hz2 l1 ⊢
        rw [h5] at ht
        obtain ⟨k', hk'⟩ : ∃ k', k = k' + 1 := ⟨k - 1, by omega⟩
        have hpD : p ∈ D := macc p (by rw [hz1]; simp)
        have hpo := hc.row p (hrows p hpD)
        have w4 : IntKind.i64.wrap ((k : Int) - 1) = (k' : Int) := by rw [wrap_id (by omega)]; omega
        obtain ⟨q1, q2, _, _, q3, q4⟩ := adj (A := A ++ P2) (B := Q1 ++ (Q ++ B)) (x := p) (y := x) (k := k') (by simp; omega) hk'
        rw [show (A ++ P2) ++ (p :: x :: (Q1 ++ (Q ++ B))) = Dc by rw [← hDc]; simp] at q1 q2 q3 q4
        refine SatD.skip ?_
        simp
        refine SatD.seq ?_
        refine SatD.block ?_ -- 3
        refine SatD.reg hΓ follows [0, 1, 2, 3, 8, 9] ?_
        simp [d49r4, w4, q1, q2, q3, q4, hl, hxo.1, hpo.1, tk hxo.1, tk hpo.1, tkm hxo.1, tkm hpo.1, dr hxo.1, dr hpo.1, pureCells_map hxo.2, pureCells_map hpo.2]
        repeat refine ⟨by omega, ?_⟩
        refine SatD.reg hΓ follows [0, 1, 2, 3, 8, 9] ?_
        simp [d49r5, w4]
        refine ⟨⟨P2, p :: Q1⟩, ?_, ⟨?_, ?_⟩, ?_⟩
        · rw [show A ++ (P2 ++ x :: (p :: Q1 ++ (Q ++ B))) = A ++ (P2 ++ x :: p :: (Q1 ++ (Q ++ B))) by simp]
          refine Le.same (hfr _) ?_
          simp; omega
        · simp [hz1]
        · rw [hz2, insR, if_pos ht]; simp
        · simp
    · have hins : insR lt x P1.reverse = x :: P1.reverse := by
        cases hr : P1.reverse with
        | nil => rfl
        | cons p P2 =>
          rw [hr] at ht
          simp only at ht
          rw [insR, if_neg (by rw [ht, h5]; simp)]
      rw [hins] at hz2
      have hnew : isort lt (P ++ [x]) = P1 ++ x :: Q1 := by
        unfold isort
        rw [isortR_snoc, hacc, hz2]; simp
      refine SatD.exit ?_
      simp
      refine SatD.reg hΓ follows [0, 1, 2, 3, 8] ?_
      simp [d49r6]
      refine ⟨⟨P ++ [x], Q⟩, ?_, ⟨?_, ?_⟩, ?_⟩
      · rw [show A ++ (isort lt (P ++ [x]) ++ (Q ++ B)) = Dc by rw [hnew, ← hDc]; simp]
        refine Le.same (hfr _) ?_
        simp
        rw [wrap_id (by omega)]; omega
      · rw [hy1]; simp
      · simp
      · simp
  · simp at h
    have hQ : Q = [] := by
      by_cases e : P = []
      · exact hy2 e
      · have : 1 ≤ P.length := List.length_pos_iff.2 e
        exact List.eq_nil_of_length_eq_zero (by omega)
    subst hQ
    rw [List.append_nil] at hy1
    subst hy1
    refine SatD.exit ?_
    simp [d49res, hfin]
end Go.Proofs
namespace Go.Proofs
open Go.DM Go.DM.Srt
set_option linter.unusedSimpArgs false
set_option linter.unusedVariables false

def k49 (good : List T → Prop) (cmpF : List T → List T → Int) : List DV → Obs → SRes
  | [.aref r ver, .v (.int .i64 a), .v (.int .i64 b), .v (.fn (.func c) caps)], objs => match objs r with
    | some (.arr ver' e sz D) => ⟨ver = ver' ∧ sz = 5 ∧ c = 36 ∧ caps = [] ∧ (∀ x ∈ D, good x) ∧ 0 ≤ a ∧ a ≤ b ∧ b ≤ D.length ∧ D.length ≤ 140737488355328,
        .v (.tup []), setO objs r (.arr ver e 5 (sortAt (ltF cmpF) D a.toNat b.toNat))⟩
    | _ => ⟨False, .undef, objs⟩
  | [.nil0, .v (.int .i64 a), .v (.int .i64 b), .v (.fn (.func c) caps)], objs => ⟨a = 0 ∧ b = 0, .v (.tup []), objs⟩
  | _, objs => ⟨False, .undef, objs⟩
def Γ48 (good : List T → Prop) (cmpF : List T → List T → Int) (F : Nat) : Env := envOf [(49, specS (k49 good cmpF)), (50, specS (k50 good cmpF F)), (51, specS k51), (36, cmpSpec good cmpF)]

theorem t49n (objs : Obs) (f : T) {N : Nat} (hN : ∀ r, N ≤ r → objs r = none) : CallsS Try.prog 49 [.nil0, .v (ti 0), .v (ti 0), .v f] objs ⟨True, .v (.tup []), objs⟩ := by
  have hΓ : EnvOk Try.prog (envOf []) := EnvOk.nil
  refine c49.okS hN (by simp) (initS_sat ?_)
  simp
  refine SatD.regSeq hΓ follows [2, 8] ?_
  simp [d49r0]
  refine SatD.block ?_ -- 0
  refine SatD.loop (fun y : Nat => ⟨DM.look [(2, .v (ti 0)), (8, .v (ti 1))], objs, N + 1000, N, []⟩) (fun _ => True) (fun _ => 0) 0 (Le.same (fun k hk => hN k (by omega)) (by simp)) trivial (fun y hy => ?_)
  refine SatD.seq ?_
  refine SatD.regSeq hΓ follows [14] ?_
  simp [d49r1]
  refine SatD.cond rfl (fun h => by cases h) (fun _ => ?_)
  refine SatD.exit ?_
  simp [d49res]

theorem ok49 {good : List T → Prop} {cmpF : List T → List T → Int} (hc : CmpOk good cmpF 36 5) (hw : SWO (ltF cmpF)) (F : Nat) : EnvOk Try.prog (Γ48 good cmpF F) := by
  refine EnvOk.consS (ok50 hc hw F) ?_
  intro args objs h
  unfold k49 at h ⊢
  split at h
  · split at h
    · rename_i a b c caps _ ver' e sz D hob
      obtain ⟨rfl, rfl, rfl, rfl, h1, h2, h3, h4, h5⟩ := h
      have ea : a = (a.toNat : Int) := by omega
      have eb : b = (b.toNat : Int) := by omega
      refine ⟨fun N hN => ?_, fun k hk => setO_none hob hk⟩
      have := t49 hc D a.toNat b.toNat objs _ _ e hob h1 (by omega) (by omega) h5 hN
      rw [← ea, ← eb] at this
      simp only [hob]
      exact this.of rfl rfl
    · exact h.elim
  · obtain ⟨rfl, rfl⟩ := h
    exact ⟨fun N hN => (t49n objs _ hN).of rfl rfl, fun _ h => h⟩
  · exact h.elim

structure KD where
  k : Nat
  D : List (List T)
structure BD where
  b : Nat
  D : List (List T)

set_option maxRecDepth 20000 in
set_option maxHeartbeats 4000000 in
theorem t48 {good : List T → Prop} {cmpF : List T → List T → Int} (hc : CmpOk good cmpF 36 5) (hw : SWO (ltF cmpF))
    (D : List (List T)) (objs : Obs) (r ver e : Nat) (hob : objs r = some (.arr ver e 5 D)) (hrows : ∀ x ∈ D, good x) (h4 : D.length ≤ 140737488355328)
    {N : Nat} (hN : ∀ r, N ≤ r → objs r = none) : CallsS Try.prog 48 [.aref r ver, .v (ti D.length), .v (.fn (.func 36) [])] objs ⟨True, .v (.tup []), setO objs r (.arr ver e 5 (isort (ltF cmpF) D))⟩ := by
  have hΓ := ok49 hc hw (D.length + 1)
  have hfr : ∀ o k, N + 1000 ≤ k → setO objs r o k = none := fun o k hk => setO_none hob (hN k (by omega))
  obtain ⟨lt, hlt⟩ : ∃ lt : List T → List T → Bool, ltF cmpF = lt := ⟨_, rfl⟩
  rw [hlt] at hw ⊢
  refine c48.okS hN (by simp) (initS_sat ?_)
  rw [setO_self hob]
  simp
  obtain ⟨n, hn⟩ : ∃ n, D.length = n := ⟨_, rfl⟩
  obtain ⟨RR, hRR⟩ : ∃ RR, isort lt D = RR := ⟨_, rfl⟩
  have same : ∀ D' : List (List T), isort lt D' = RR → (∀ x ∈ D', good x) ∧ D'.length = n := by
    intro D' h
    refine ⟨fun x hx => hrows x ?_, ?_⟩
    · have : x ∈ isort lt D' := by simpa using hx
      rw [h, ← hRR] at this
      simpa using this
    · have := isort_length (lt := lt) D'
      rw [h, ← hRR, isort_length] at this
      omega
  have same2 : ∀ (D' : List (List T)) (a b : Nat), isort lt D' = RR → a ≤ b → isort lt (sortAt lt D' a b) = RR := fun D' a b h hab => by rw [isort_sortAt hw hab, h]
  rw [hn, hRR]
  refine SatD.regSeq hΓ follows [0, 1, 2, 6] ?_
  simp [d48r0]
  refine SatD.regSeq hΓ follows [0, 1, 2, 6, 7, 8] ?_
  simp [d48r1]
  refine SatD.seq ?_
  refine SatD.block ?_ -- 0
  refine SatD.loop (fun y : KD => ⟨DM.look [(0, .aref r ver), (1, .v (ti n)), (2, .v (.fn (.func 36) [])), (6, .v (ti 20)), (7, .v (ti ((20 * y.k : Nat) : Int))), (8, .v (ti ((20 * y.k + 20 : Nat) : Int)))], setO objs r (.arr ver e 5 y.D), N + 1000, N, []⟩)
    (fun y => 20 * y.k ≤ n ∧ isort lt y.D = RR ∧ Blocks lt y.D 20 (fun j => j < y.k)) (fun y => n - 20 * y.k) ⟨0, D⟩ ?_ ⟨by simp, hRR, fun j hj => by simp at hj⟩ (fun y hy => ?_)
  · exact Le.same (hfr _) (by simp)
  obtain ⟨k, D1⟩ := y
  obtain ⟨hk, hs, hb⟩ := hy
  simp only at hk hs hb ⊢
  obtain ⟨g1, l1⟩ := same D1 hs
  refine SatD.seq ?_
  obtain ⟨a, ha⟩ : ∃ a, 20 * k = a := ⟨_, rfl⟩
  rw [ha] at hk ⊢
  refine SatD.regSeq hΓ follows [0, 1, 2, 6, 7, 8, 13] ?_
  simp [d48r2]
  refine SatD.cond rfl (fun h => ?_) (fun h => ?_)
  · simp at h
    refine SatD.skip ?_
    simp
    refine SatD.block ?_ -- 1
    refine SatD.regASeq hΓ follows (rs := d48r3S) (.inr ⟨_, rfl⟩) (by kernel_rfl) [0, 1, 2, 6, 8] ?_
    simp [d48r3S, Γ48, k49, hlt]
    refine ⟨⟨g1, by omega, by omega⟩, ?_⟩
    refine SatD.regSeq hΓ follows [0, 1, 2, 6, 7, 8] ?_
    simp [d48r4]
    refine SatD.reg hΓ follows [0, 1, 2, 6, 7, 8] ?_
    simp [d48r5]
    refine ⟨⟨k + 1, sortAt lt D1 a (a + 20)⟩, ?_, ⟨by simp only; omega, same2 _ _ _ hs (by omega), fun j hj => ?_⟩, by simp only; omega⟩
    · have : ((a : Int) + 20).toNat = a + 20 := by omega
      simp only [this]
      refine Le.same (hfr _) ?_
      simp
      rw [wrap_id (by omega)]
      omega
    · simp only at hj
      by_cases e : j = k
      · subst e
        rw [show j * 20 = a by omega, seg_sortAt_self (by omega) (by omega)]
        exact isort_sorted hw _
      · rw [seg_sortAt_other (by omega) (by omega) (.inl (by omega))]
        exact hb j (by omega)
  simp at h
  refine SatD.exit ?_
  simp
  refine SatD.regASeq hΓ follows (rs := d48r6S) (.inr ⟨_, rfl⟩) (by kernel_rfl) [0, 1, 2, 6] ?_
  simp [d48r6S, Γ48, k49, hlt]
  refine ⟨⟨g1, by omega, by omega⟩, ?_⟩
  obtain ⟨D2, hD2⟩ : ∃ D2, sortAt lt D1 a n = D2 := ⟨_, rfl⟩
  rw [hD2]
  have hs2 : isort lt D2 = RR := by rw [← hD2]; exact same2 _ _ _ hs (by omega)
  have l2 : D2.length = n := (same D2 hs2).2
  have hb2 : Blocks lt D2 20 (fun _ => True) := by
    intro j _
    by_cases e : j * 20 < a
    · rw [← hD2, seg_sortAt_other (by omega) (by omega) (.inl (by omega))]
      exact hb j (by omega)
    · by_cases e2 : j * 20 = a
      · rw [e2, seg_end (by omega), ← seg_end (i := a) (j := n) (by omega), ← hD2, seg_sortAt_self (by omega) (by omega)]
        exact isort_sorted hw _
      · have : seg D2 (j * 20) (j * 20 + 20) = [] := List.eq_nil_of_length_eq_zero (by simp; omega)
        rw [this]; exact List.Pairwise.nil
  clear hD2 hb hs g1 l1
  refine SatD.block ?_ -- 2
  refine SatD.loop (fun y : BD => ⟨DM.look [(0, .aref r ver), (1, .v (ti n)), (2, .v (.fn (.func 36) [])), (6, .v (ti y.b))], setO objs r (.arr ver e 5 y.D), N + 1000, N, []⟩)
    (fun y => 0 < y.b ∧ isort lt y.D = RR ∧ Blocks lt y.D y.b (fun _ => True)) (fun y => n - y.b) ⟨20, D2⟩ ?_ ⟨by simp, hs2, hb2⟩ (fun y hy => ?_)
  · exact Le.same (hfr _) (by simp)
  obtain ⟨bs, D3⟩ := y
  obtain ⟨hbs, hs3, hb3⟩ := hy
  simp only at hbs hs3 hb3 ⊢
  obtain ⟨g3, l3⟩ := same D3 hs3
  refine SatD.seq ?_
  refine SatD.regSeq hΓ follows [0, 1, 2, 6, 30] ?_
  simp [d48r7]
  refine SatD.cond rfl (fun h2 => ?_) (fun h2 => ?_)
  · simp at h2
    have w1 : IntKind.i64.wrap (2 * (bs : Int)) = ((2 * bs : Nat) : Int) := by rw [wrap_id (by omega)]; omega
    refine SatD.skip ?_
    simp
    refine SatD.block ?_ -- 3
    refine SatD.regSeq hΓ follows [0, 1, 2, 6, 7, 8] ?_
    simp [d48r8, w1]
    refine SatD.seq ?_
    refine SatD.block ?_ -- 4
    refine SatD.loop (fun y : KD => ⟨DM.look [(0, .aref r ver), (1, .v (ti n)), (2, .v (.fn (.func 36) [])), (6, .v (ti bs)), (7, .v (ti ((y.k * (2 * bs) : Nat) : Int))), (8, .v (ti ((y.k * (2 * bs) + 2 * bs : Nat) : Int)))], setO objs r (.arr ver e 5 y.D), N + 1000, N, []⟩)
      (fun y => y.k * (2 * bs) ≤ n ∧ isort lt y.D = RR ∧ Blocks lt y.D (2 * bs) (fun j => j < y.k) ∧ Blocks lt y.D bs (fun j => y.k * (2 * bs) ≤ j * bs)) (fun y => n - y.k * (2 * bs)) ⟨0, D3⟩ ?_ ⟨by simp, hs3, fun j hj => by simp at hj, fun j _ => hb3 j trivial⟩ (fun y hy => ?_)
    · exact Le.same (hfr _) (by simp)
    obtain ⟨k, D4⟩ := y
    obtain ⟨hk, hs4, hb4, hc4⟩ := hy
    simp only at hk hs4 hb4 hc4 ⊢
    obtain ⟨g4, l4⟩ := same D4 hs4
    have e2 : 2 * k * bs = k * (2 * bs) := by rw [Nat.mul_comm 2 k, Nat.mul_assoc]
    have e3 : (2 * k + 1) * bs = k * (2 * bs) + bs := by rw [Nat.add_mul, e2, Nat.one_mul]
    have hA := hc4 (2 * k) (by simp only; omega)
    have hB := hc4 (2 * k + 1) (by simp only; omega)
    rw [e2] at hA
    rw [e3] at hB
    obtain ⟨a, ha⟩ : ∃ a, k * (2 * bs) = a := ⟨_, rfl⟩
    simp only [ha] at hk hA hB hc4 ⊢
    refine SatD.seq ?_
    refine SatD.regSeq hΓ follows [0, 1, 2, 6, 7, 8, 35] ?_
    simp [d48r9]
    refine SatD.cond rfl (fun h3 => ?_) (fun h3 => ?_)
    · simp at h3
      have w2 : IntKind.i64.wrap ((a : Int) + bs) = ((a + bs : Nat) : Int) := by rw [wrap_id (by omega)]; omega
      refine SatD.skip ?_
      simp
      refine SatD.block ?_ -- 5
      refine SatD.regASeq hΓ follows (rs := d48r10S) (.inr ⟨_, rfl⟩) (by kernel_rfl) [0, 1, 2, 6, 8] ?_
      have tn : ((a : Int) + 2 * (bs : Int)).toNat = a + 2 * bs := by omega
      simp [d48r10S, Γ48, k50, hlt, w2, tn]
      refine ⟨⟨g4, by omega, by omega, by omega, by omega, by omega, hA, by rw [show a + 2 * bs = a + bs + bs by omega]; exact hB⟩, ?_⟩
      refine SatD.regSeq hΓ follows [0, 1, 2, 6, 7, 8] ?_
      simp [d48r11]
      refine SatD.reg hΓ follows [0, 1, 2, 6, 7, 8] ?_
      simp [d48r12, w1]
      have e4 : (k + 1) * (2 * bs) = a + 2 * bs := by rw [Nat.add_mul, ha, Nat.one_mul]
      refine ⟨⟨k + 1, sortAt lt D4 a (a + 2 * bs)⟩, ?_, ⟨by simp only [e4]; omega, same2 _ _ _ hs4 (by omega), fun j hj => ?_, fun j hj => ?_⟩, by simp only [e4]; omega⟩
      · simp only [e4]
        refine Le.same (hfr _) ?_
        have e4' : ((k : Int) + 1) * (2 * (bs : Int)) = (a : Int) + 2 * bs := by exact_mod_cast e4
        simp [e4']
        rw [wrap_id (by omega)]
      · simp only at hj
        by_cases e : j = k
        · subst e
          rw [ha, seg_sortAt_self (by omega) (by omega)]
          exact isort_sorted hw _
        · have := mul_lt_of (bs := 2 * bs) (show j < k by omega)
          rw [seg_sortAt_other (by omega) (by omega) (.inl (by omega))]
          exact hb4 j (by simp only; omega)
      · simp only [e4] at hj
        rw [seg_sortAt_other (by omega) (by omega) (.inr (by omega))]
        exact hc4 j (by simp only; omega)
    · simp at h3
      refine SatD.exit ?_
      simp
      have w2 : IntKind.i64.wrap ((a : Int) + bs) = ((a + bs : Nat) : Int) := by rw [wrap_id (by omega)]; omega
      refine SatD.seq ?_
      refine SatD.regSeq hΓ follows [0, 1, 2, 6, 7, 9] ?_
      simp [d48r13, w2]
      refine SatD.regSeq hΓ follows [0, 1, 2, 6, 7, 9, 54] ?_
      simp [d48r14]
      obtain ⟨D5, hD5⟩ : ∃ D5, (if a + bs < n then sortAt lt D4 a n else D4) = D5 := ⟨_, rfl⟩
      have hs5 : isort lt D5 = RR := by
        rw [← hD5]
        split
        · exact same2 _ _ _ hs4 (by omega)
        · exact hs4
      have l5 : D5.length = n := (same D5 hs5).2
      have hb5 : Blocks lt D5 (2 * bs) (fun _ => True) := by
        intro j _
        by_cases e : j < k
        · have := mul_lt_of (bs := 2 * bs) e
          rw [← hD5]
          split
          · rw [seg_sortAt_other (by omega) (by omega) (.inl (by omega))]; exact hb4 j e
          · exact hb4 j e
        · by_cases e5 : j = k
          · subst e5
            rw [ha, seg_end (by omega)]
            rw [← seg_end (i := a) (j := n) (by omega), ← hD5]
            split
            · rw [seg_sortAt_self (by omega) (by omega)]; exact isort_sorted hw _
            · rw [seg_end (by omega), ← seg_end (i := a) (j := a + bs) (by omega)]; exact hA
          · have := mul_lt_of (bs := 2 * bs) (show k < j by omega)
            have : seg D5 (j * (2 * bs)) (j * (2 * bs) + 2 * bs) = [] := List.eq_nil_of_length_eq_zero (by simp; omega)
            rw [this]; exact List.Pairwise.nil
      refine SatD.to ⟨DM.look [(0, .aref r ver), (1, .v (ti n)), (2, .v (.fn (.func 36) [])), (6, .v (ti bs))], setO objs r (.arr ver e 5 D5), N + 1000, N, []⟩ ?_ ?_
      · refine SatD.cond rfl (fun h5 => ?_) (fun h5 => ?_)
        · simp at h5
          refine SatD.regA hΓ follows (rs := d48r15S) (.inr ⟨_, rfl⟩) (by kernel_rfl) [0, 1, 2, 6] ?_
          have tn : ((a : Int) + (bs : Int)).toNat = a + bs := by omega
          simp [d48r15S, Γ48, k50, hlt, tn]
          refine ⟨⟨g4, by omega, by omega, by omega, by omega, by omega, hA, ?_⟩, ?_⟩
          · rw [seg_end (by omega), ← seg_end (i := a + bs) (j := a + bs + bs) (by omega)]; exact hB
          · rw [if_pos (by omega)] at hD5
            rw [hD5]
            exact Le.same (hfr _) (by simp)
        · simp at h5
          rw [if_neg (by omega)] at hD5
          rw [hD5]
          refine SatD.skip ⟨rfl, ?_⟩
          exact Le.same (hfr _) (by simp)
      · simp
        refine SatD.reg hΓ follows [0, 1, 2, 6] ?_
        simp [d48r16]
        refine ⟨⟨2 * bs, D5⟩, ?_, ⟨by simp only; omega, hs5, hb5⟩, by simp only; omega⟩
        refine Le.same (hfr _) ?_
        simp
        rw [wrap_id (by omega)]; omega
  · simp at h2
    have : D3 = RR := by
      rw [← hs3]
      refine (isort_of_sorted hw ?_).symm
      have := hb3 0 trivial
      rw [Nat.zero_mul, Nat.zero_add, seg_end (by omega), List.drop_zero] at this
      exact this
    refine SatD.exit ?_
    simp [d48res, this]
end Go.Proofs
namespace Go.Proofs
open Go.DM Go.DM.Srt
set_option linter.unusedSimpArgs false
set_option linter.unusedVariables false

theorem t48n {good : List T → Prop} {cmpF : List T → List T → Int} (hc : CmpOk good cmpF 36 5) (hw : SWO (ltF cmpF)) (objs : Obs) (f : Nat) {N : Nat} (hN : ∀ r, N ≤ r → objs r = none) :
    CallsS Try.prog 48 [.nil0, .v (ti 0), .v (.fn (.func f) [])] objs ⟨True, .v (.tup []), objs⟩ := by
  have hΓ := ok49 hc hw 0
  have hfr : ∀ k, N + 1000 ≤ k → objs k = none := fun k hk => hN k (by omega)
  refine c48.okS hN (by simp) (initS_sat ?_)
  simp
  refine SatD.regSeq hΓ follows [0, 1, 2, 6] ?_
  simp [d48r0]
  refine SatD.regSeq hΓ follows [0, 1, 2, 6, 7, 8] ?_
  simp [d48r1]
  refine SatD.seq ?_
  refine SatD.block ?_ -- 0
  refine SatD.loop (fun y : Nat => ⟨DM.look [(0, .nil0), (1, .v (ti 0)), (2, .v (.fn (.func f) [])), (6, .v (ti 20)), (7, .v (ti 0)), (8, .v (ti 20))], objs, N + 1000, N, []⟩) (fun _ => True) (fun _ => 0) 0 (Le.same hfr (by simp)) trivial (fun y hy => ?_)
  refine SatD.seq ?_
  refine SatD.regSeq hΓ follows [0, 1, 2, 6, 7, 13] ?_
  simp [d48r2]
  refine SatD.cond rfl (fun h => by cases h) (fun _ => ?_)
  refine SatD.exit ?_
  simp
  refine SatD.regASeq hΓ follows (rs := d48r6S) (.inr ⟨_, rfl⟩) (by kernel_rfl) [1, 6] ?_
  simp [d48r6S, Γ48, k49]
  refine SatD.block ?_ -- 2
  refine SatD.loop (fun y : Nat => ⟨DM.look [(1, .v (ti 0)), (6, .v (ti 20))], objs, N + 1000, N, []⟩) (fun _ => True) (fun _ => 0) 0 (Le.same hfr (by simp)) trivial (fun y hy => ?_)
  refine SatD.seq ?_
  refine SatD.regSeq hΓ follows [30] ?_
  simp [d48r7]
  refine SatD.cond rfl (fun h => by cases h) (fun _ => ?_)
  refine SatD.exit ?_
  simp [d48res]

def k48 (good : List T → Prop) (cmpF : List T → List T → Int) : List DV → Obs → SRes
  | [.aref r ver, .v (.int .i64 n), .v (.fn (.func c) caps)], objs => match objs r with
    | some (.arr ver' e sz D) => ⟨ver = ver' ∧ sz = 5 ∧ c = 36 ∧ caps = [] ∧ (∀ x ∈ D, good x) ∧ n = D.length ∧ D.length ≤ 140737488355328,
        .v (.tup []), setO objs r (.arr ver e 5 (isort (ltF cmpF) D))⟩
    | _ => ⟨False, .undef, objs⟩
  | [.nil0, .v (.int .i64 n), .v (.fn (.func c) caps)], objs => ⟨n = 0 ∧ caps = [], .v (.tup []), objs⟩
  | _, objs => ⟨False, .undef, objs⟩
theorem ok48 {good : List T → Prop} {cmpF : List T → List T → Int} (hc : CmpOk good cmpF 36 5) (hw : SWO (ltF cmpF)) : EnvOk Try.prog (envOf [(48, specS (k48 good cmpF))]) := by
  refine EnvOk.consS EnvOk.nil ?_
  intro args objs h
  unfold k48 at h ⊢
  split at h
  · split at h
    · rename_i c caps _ ver' e sz D hob
      obtain ⟨rfl, rfl, rfl, rfl, h1, rfl, h5⟩ := h
      refine ⟨fun N hN => ?_, fun k hk => setO_none hob hk⟩
      simp only [hob]
      exact (t48 hc hw D objs _ _ e hob h1 h5 hN).of rfl rfl
    · exact h.elim
  · obtain ⟨rfl, rfl⟩ := h
    exact ⟨fun N hN => (t48n hc hw objs _ hN).of rfl rfl, fun _ h => h⟩
  · exact h.elim

def k35 (good : List T → Prop) (cmpF : List T → List T → Int) : List DV → Obs → SRes
  | [.aref r ver, .v (.fn (.func c) caps)], objs => match objs r with
    | some (.arr ver' e sz D) => ⟨ver = ver' ∧ sz = 5 ∧ c = 36 ∧ caps = [] ∧ (∀ x ∈ D, good x) ∧ D.length ≤ 140737488355328,
        .v (.tup []), setO objs r (.arr ver e 5 (isort (ltF cmpF) D))⟩
    | _ => ⟨False, .undef, objs⟩
  | [.nil0, .v (.fn (.func c) caps)], objs => ⟨caps = [], .v (.tup []), objs⟩
  | _, objs => ⟨False, .undef, objs⟩
theorem t35 {good : List T → Prop} {cmpF : List T → List T → Int} (hc : CmpOk good cmpF 36 5) (hw : SWO (ltF cmpF)) (D : List (List T)) (objs : Obs) (r ver e : Nat) (hob : objs r = some (.arr ver e 5 D)) (hrows : ∀ x ∈ D, good x) (h4 : D.length ≤ 140737488355328)
    {N : Nat} (hN : ∀ r, N ≤ r → objs r = none) : CallsS Try.prog 35 [.aref r ver, .v (.fn (.func 36) [])] objs ⟨True, .v (.tup []), setO objs r (.arr ver e 5 (isort (ltF cmpF) D))⟩ := by
  have hΓ := ok48 hc hw
  refine c35.okS hN (by simp) (initS_sat ?_)
  rw [setO_self hob]
  simp
  refine SatD.regA hΓ follows (rs := d35r0S) (.inr ⟨_, rfl⟩) (by kernel_rfl) [] ?_
  simp [d35r0S, k48, d35res]
  exact ⟨hrows, h4⟩
theorem t35n {good : List T → Prop} {cmpF : List T → List T → Int} (hc : CmpOk good cmpF 36 5) (hw : SWO (ltF cmpF)) (objs : Obs) (f : Nat) {N : Nat} (hN : ∀ r, N ≤ r → objs r = none) : CallsS Try.prog 35 [.nil0, .v (.fn (.func f) [])] objs ⟨True, .v (.tup []), objs⟩ := by
  have hΓ := ok48 hc hw
  refine c35.okS hN (by simp) (initS_sat ?_)
  simp
  refine SatD.regA hΓ follows (rs := d35r0S) (.inr ⟨_, rfl⟩) (by kernel_rfl) [] ?_
  simp [d35r0S, k48, d35res]
theorem ok35 {good : List T → Prop} {cmpF : List T → List T → Int} (hc : CmpOk good cmpF 36 5) (hw : SWO (ltF cmpF)) {l : List (Nat × DM.Spec)} (h : EnvOk Try.prog (envOf l)) : EnvOk Try.prog (envOf ((35, specS (k35 good cmpF)) :: l)) := by
  refine EnvOk.consS h ?_
  intro args objs h
  unfold k35 at h ⊢
  split at h
  · split at h
    · rename_i c caps _ ver' e sz D hob
      obtain ⟨rfl, rfl, rfl, rfl, h1, h5⟩ := h
      refine ⟨fun N hN => ?_, fun k hk => setO_none hob hk⟩
      simp only [hob]
      exact (t35 hc hw D objs _ _ e hob h1 h5 hN).of rfl rfl
    · exact h.elim
  · subst h
    exact ⟨fun N hN => (t35n hc hw objs _ hN).of rfl rfl, fun _ h => h⟩
  · exact h.elim
end Go.Proofs
