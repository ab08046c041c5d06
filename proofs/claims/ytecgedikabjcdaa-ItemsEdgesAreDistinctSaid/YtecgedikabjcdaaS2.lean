import Derived.Test.YtecgedikabjcdaaS1
namespace Go.Proofs
open Go.DM Go.DM.Srt
set_option linter.unusedSimpArgs false
set_option linter.unusedVariables false

def k52 : List DV → Obs → SRes
  | [.aref r ver, .v (.int .i64 a), .v (.int .i64 b), .v (.int .i64 n), .v g], objs => match objs r with
    | some (.arr ver' e sz D) => ⟨ver = ver' ∧ sz = 5 ∧ (∀ x ∈ D, rowOk 5 x) ∧ 0 ≤ a ∧ 0 ≤ n ∧ a + n ≤ b ∧ b + n ≤ D.length ∧ D.length ≤ 140737488355328, .v (.tup []), setO objs r (.arr ver e 5 (swapAt D a.toNat b.toNat n.toNat))⟩
    | _ => ⟨False, .undef, objs⟩
  | _, objs => ⟨False, .undef, objs⟩
def Γ52 : Env := envOf [(52, specS k52)]
theorem ok52 : EnvOk Try.prog Γ52 := by
  refine EnvOk.consS EnvOk.nil ?_
  intro args objs h
  unfold k52 at h ⊢
  split at h
  · split at h
    · rename_i a b n g _ ver' e sz D hob
      obtain ⟨rfl, rfl, h1, h2, h3, h4, h5, h6⟩ := h
      have ea : a = (a.toNat : Int) := by omega
      have eb : b = (b.toNat : Int) := by omega
      have en : n = (n.toNat : Int) := by omega
      refine ⟨fun N hN => ?_, fun k hk => setO_none hob hk⟩
      have := t52 D a.toNat b.toNat n.toNat objs _ _ e g hob h1 (by omega) (by omega) h6 hN
      rw [← ea, ← eb, ← en] at this
      simp only [hob]
      exact this.of rfl rfl
    · exact h.elim
  · exact h.elim

structure Ro where
  (A P Q B : List (List T))
def Ro.D (s : Ro) : List (List T) := s.A ++ (s.P ++ (s.Q ++ s.B))

set_option maxRecDepth 20000 in
theorem t51 (D : List (List T)) (a m b : Nat) (objs : Obs) (r ver e : Nat) (g : T) (hob : objs r = some (.arr ver e 5 D)) (hrows : ∀ x ∈ D, rowOk 5 x) (h1 : a < m) (h2 : m < b) (h2 : b ≤ D.length) (h3 : D.length ≤ 140737488355328)
    {N : Nat} (hN : ∀ r, N ≤ r → objs r = none) : CallsS Try.prog 51 [.aref r ver, .v (ti a), .v (ti m), .v (ti b), .v g] objs ⟨True, .v (.tup []), setO objs r (.arr ver e 5 (rotAt D a m b))⟩ := by
  have hΓ := ok52
  have hfr : ∀ o k, N + 200 ≤ k → setO objs r o k = none := fun o k hk => setO_none hob (hN k (by omega))
  refine c51.okS hN (by simp) (initS_sat ?_)
  rw [setO_self hob]
  simp
  have w1 : IntKind.i64.wrap ((m : Int) - a) = ((m - a : Nat) : Int) := by rw [wrap_id (by omega)]; omega
  have w2 : IntKind.i64.wrap ((b : Int) - m) = ((b - m : Nat) : Int) := by rw [wrap_id (by omega)]; omega
  refine SatD.regSeq hΓ follows [0, 2, 3, 4, 10] ?_
  simp [d51r0, w1]
  refine SatD.regSeq hΓ follows [0, 2, 4, 10, 11] ?_
  simp [d51r1, w2]
  refine SatD.seq ?_
  refine SatD.block ?_ -- 0
  have hD := split4 D (a := a) (m := m) (b := b) (by omega) (by omega)
  have lA : (D.take a).length = a := by simp; omega
  have lP : (seg D a m).length = m - a := by simp; omega
  have lQ : (seg D m b).length = b - m := by simp; omega
  have hF : rotAt D a m b = D.take a ++ (seg D m b ++ (seg D a m ++ D.drop b)) := rfl
  refine SatD.loop (fun y : Ro => ⟨DM.look [(0, .aref r ver), (2, .v (ti m)), (4, .v g), (10, .v (ti y.P.length)), (11, .v (ti y.Q.length))], setO objs r (.arr ver e 5 y.D), N + 200, N, []⟩)
    (fun y => y.A.length + y.P.length = m ∧ 0 < y.P.length ∧ 0 < y.Q.length ∧ y.A ++ (y.Q ++ (y.P ++ y.B)) = rotAt D a m b ∧ y.D.length = D.length ∧ ∀ x ∈ y.D, x ∈ D) (fun y => y.P.length + y.Q.length) ⟨D.take a, seg D a m, seg D m b, D.drop b⟩ ?_ ?_ (fun y hy => ?_)
  · simp only [Ro.D, ← hD]
    refine Le.same (hfr _) ?_
    simp
    omega
  · simp only [lA, lP, lQ, Ro.D, ← hD]
    exact ⟨by omega, by omega, by omega, by rw [hF], trivial, fun _ h => h⟩
  obtain ⟨A, P, Q, B⟩ := y
  obtain ⟨e1, e2, e3, e4, e5, e6⟩ := hy
  simp only at e1 e2 e3 e4 e5 e6 ⊢
  obtain ⟨Dc, hDc⟩ : ∃ Dc, Ro.D ⟨A, P, Q, B⟩ = Dc := ⟨_, rfl⟩
  obtain ⟨i, hi⟩ : ∃ i, P.length = i := ⟨_, rfl⟩
  obtain ⟨j, hj⟩ : ∃ j, Q.length = j := ⟨_, rfl⟩
  rw [hDc] at e5 e6
  have e5' : A.length + (i + (j + B.length)) = D.length := by rw [← e5, ← hDc]; simp [Ro.D, hi, hj]
  have hrc : ∀ x ∈ Dc, rowOk 5 x := fun x hx => hrows x (e6 x hx)
  have w3 : IntKind.i64.wrap ((m : Int) - i) = ((m - i : Nat) : Int) := by rw [wrap_id (by omega)]; omega
  refine SatD.seq ?_
  refine SatD.regSeq hΓ follows [0, 2, 4, 10, 11, 20] ?_
  simp [d51r2, hi, hj, hDc]
  refine SatD.cond rfl (fun h => ?_) (fun h => ?_)
  · simp at h
    refine SatD.skip ?_
    simp
    refine SatD.block ?_ -- 1
    refine SatD.regSeq hΓ follows [0, 2, 4, 10, 11, 23] ?_
    simp [d51r3]
    refine SatD.cond rfl (fun h4 => ?_) (fun h4 => ?_)
    · simp at h4
      refine SatD.regASeq hΓ follows (rs := d51r4S) (.inr ⟨_, rfl⟩) (by kernel_rfl) [0, 2, 4, 10, 11] ?_
      simp [d51r4S, Γ52, k52, w3]
      refine ⟨⟨hrc, by omega, by omega, by omega⟩, ?_⟩
      obtain ⟨P1, P2, rfl, lP1⟩ : ∃ P1 P2, P = P1 ++ P2 ∧ P1.length = j := ⟨P.take j, P.drop j, (List.take_append_drop j P).symm, by simp; omega⟩
      simp only [List.length_append] at hi
      have hsw : swapAt Dc (m - i) m j = Ro.D ⟨A ++ Q, P2, P1, B⟩ := by
        rw [← hDc]
        simp only [Ro.D, List.append_assoc]
        exact swapAt_app A P1 P2 Q B (by simp only [List.length_append] at e1; omega) lP1 (by simp only [List.length_append] at e1; omega) hj
      rw [hsw]
      have w4 : IntKind.i64.wrap ((i : Int) - j) = ((i - j : Nat) : Int) := by rw [wrap_id (by omega)]; omega
      refine SatD.reg hΓ follows [0, 2, 4, 10, 11] ?_
      simp [d51r5, w4]
      refine ⟨⟨A ++ Q, P2, P1, B⟩, ?_, ⟨?_, ?_, ?_, ?_, ?_, ?_⟩, ?_⟩
      · refine Le.same (hfr _) ?_
        simp; omega
      · simp only [List.length_append] at e1 ⊢; omega
      · simp only; omega
      · simp only; omega
      · rw [← e4]; simp
      · rw [← e5, ← hDc]; simp [Ro.D]; omega
      · intro x hx
        refine e6 x ?_
        rw [← hDc]
        simp only [Ro.D, List.mem_append] at hx ⊢
        rcases hx with (h | h) | h | h | h <;> simp [h]
      · simp only; omega
    · simp at h4
      have w4 : IntKind.i64.wrap (IntKind.i64.wrap ((m : Int) + j) - i) = ((m + j - i : Nat) : Int) := by rw [wrap_id (x := (m : Int) + j) (by omega), wrap_id (by omega)]; omega
      have w5 : IntKind.i64.wrap ((j : Int) - i) = ((j - i : Nat) : Int) := by rw [wrap_id (by omega)]; omega
      refine SatD.regASeq hΓ follows (rs := d51r6S) (.inr ⟨_, rfl⟩) (by kernel_rfl) [0, 2, 4, 10, 11] ?_
      simp [d51r6S, Γ52, k52, w3, w4]
      refine ⟨⟨hrc, by omega, by omega, by omega⟩, ?_⟩
      obtain ⟨Q1, Q2, rfl, lQ2⟩ : ∃ Q1 Q2, Q = Q1 ++ Q2 ∧ Q2.length = i := ⟨Q.take (j - i), Q.drop (j - i), (List.take_append_drop _ Q).symm, by simp; omega⟩
      simp only [List.length_append] at hj
      have hsw : swapAt Dc (m - i) (m + j - i) i = Ro.D ⟨A, Q2, Q1, P ++ B⟩ := by
        rw [← hDc]
        simp only [Ro.D, List.append_assoc]
        exact swapAt_app A P Q1 Q2 B (by omega) hi (by omega) lQ2
      rw [hsw]
      refine SatD.reg hΓ follows [0, 2, 4, 10, 11] ?_
      simp [d51r7, w5]
      refine ⟨⟨A, Q2, Q1, P ++ B⟩, ?_, ⟨?_, ?_, ?_, ?_, ?_, ?_⟩, ?_⟩
      · refine Le.same (hfr _) ?_
        simp; omega
      · simp only; omega
      · simp only; omega
      · simp only; omega
      · rw [← e4]; simp
      · rw [← e5, ← hDc]; simp [Ro.D]; omega
      · intro x hx
        refine e6 x ?_
        rw [← hDc]
        simp only [Ro.D, List.mem_append] at hx ⊢
        rcases hx with h | h | h | h | h <;> simp [h]
      · simp only; omega
  · simp at h
    refine SatD.exit ?_
    simp
    refine SatD.regA hΓ follows (rs := d51r8S) (.inr ⟨_, rfl⟩) (by kernel_rfl) [] ?_
    simp [d51r8S, Γ52, k52, w3]
    refine ⟨⟨hrc, by omega, by omega, by omega⟩, ?_⟩
    have hsw : swapAt Dc (m - i) m i = rotAt D a m b := by
      rw [← hDc, ← e4]
      simp only [Ro.D]
      exact swapAt_app A P [] Q B (by omega) hi (by simp; omega) (by omega)
    simp [d51res, hsw]
end Go.Proofs
