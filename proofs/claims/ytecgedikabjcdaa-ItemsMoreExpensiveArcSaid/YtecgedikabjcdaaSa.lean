import Derived.Test.YtecgedikabjcdaaIb
import Derived.Test.YtecgedikabjcdaaMg
namespace Go.Proofs
open Go.DM Go.DM.Srt
set_option linter.unusedSimpArgs false
set_option linter.unusedVariables false

section
variable (good : List T → Prop) (cmpF : List T → List T → Int)
def cmpSpec : DM.Spec := specP (fun ts => ∃ x y, ts = [.agg x, .agg y] ∧ good x ∧ good y) (fun | [.agg x, .agg y] => ti (cmpF x y) | _ => .bool false) true
/-- The contract of a comparison. -/
structure CmpOk (f : Nat) (n : Nat) : Prop where
  run : ∀ x y, good x → good y → CallsOk Try.prog f [.agg x, .agg y] (ti (cmpF x y))
  row : ∀ x, good x → rowOk n x
abbrev ltF (x y : List T) : Bool := decide (cmpF x y < 0)
def sArr (n : Nat) (objs : Obs) (r ver : Nat) (D : List (List T)) : Prop := ∃ e, objs r = some (.arr ver e n D)

variable {good cmpF}
theorem cmp_env {f n : Nat} (h : CmpOk good cmpF f n) : EnvOk Try.prog (envOf [(f, cmpSpec good cmpF)]) := by
  refine EnvOk.cons EnvOk.nil ?_
  rintro ts ⟨x, y, rfl, h1, h2⟩
  exact ⟨h.run x y h1 h2, fun _ => rfl⟩

theorem rowAt_app {A B : List (List T)} {x : List T} {i : Nat} (h : A.length = i) : DM.rowAt (A ++ (x :: B)) (i : Int) = x := by
  subst h; simp [DM.rowAt]
theorem set_app {A B : List (List T)} {x v : List T} {i : Nat} (h : A.length = i) : (A ++ (x :: B)).set i v = A ++ (v :: B) := by
  subst h; simp
theorem tkm {n : Nat} {x : List T} (h : x.length = n) : (x.map DV.v).take n = x.map DV.v := by subst h; rw [← List.map_take, List.take_length]
theorem dr {n : Nat} {x : List T} (h : x.length = n) : x.drop n = [] := by subst h; simp
theorem tk {n : Nat} {x : List T} (h : x.length = n) : x.take n = x := by subst h; simp

structure Sw where
  (X1 X2 Y1 Y2 : List (List T))
def Sw.D (A M B : List (List T)) (s : Sw) : List (List T) := A ++ (s.Y1 ++ (s.X2 ++ (M ++ (s.X1 ++ (s.Y2 ++ B)))))

set_option maxRecDepth 20000 in
theorem t52 (D : List (List T)) (a b n : Nat) (objs : Obs) (r ver e : Nat) (g : T) (hob : objs r = some (.arr ver e 5 D)) (hrows : ∀ x ∈ D, rowOk 5 x) (h1 : a + n ≤ b) (h2 : b + n ≤ D.length) (h3 : D.length ≤ 140737488355328)
    {N : Nat} (hN : ∀ r, N ≤ r → objs r = none) : CallsS Try.prog 52 [.aref r ver, .v (ti a), .v (ti b), .v (ti n), .v g] objs ⟨True, .v (.tup []), setO objs r (.arr ver e 5 (swapAt D a b n))⟩ := by
  have hΓ : EnvOk Try.prog (envOf []) := EnvOk.nil
  have hfr : ∀ o k, N + 200 ≤ k → setO objs r o k = none := fun o k hk => setO_none hob (hN k (by omega))
  refine c52.okS hN (by simp) (initS_sat ?_)
  rw [setO_self hob]
  simp
  have hD : D = D.take a ++ (seg D a (a + n) ++ (seg D (a + n) b ++ (seg D b (b + n) ++ D.drop (b + n)))) := by
    rw [seg_drop D (by omega), seg_drop D (by omega), seg_drop D (by omega), List.take_append_drop]
  have lA : (D.take a).length = a := by simp; omega
  have lX : (seg D a (a + n)).length = n := by simp; omega
  have lM : (seg D (a + n) b).length = b - (a + n) := by simp; omega
  have lY : (seg D b (b + n)).length = n := by simp; omega
  have hL : D.length = a + n + (b - (a + n)) + n + (D.drop (b + n)).length := by simp; omega
  generalize hA : D.take a = A at *
  generalize hX : seg D a (a + n) = X at *
  generalize hM : seg D (a + n) b = M at *
  generalize hY : seg D b (b + n) = Y at *
  generalize hB : D.drop (b + n) = B at *
  refine SatD.regSeq hΓ follows [0, 1, 2, 3, 10] ?_
  simp [d52r0]
  refine SatD.block ?_ -- 0
  refine SatD.loop (fun y : Sw => ⟨DM.look [(0, .aref r ver), (1, .v (ti a)), (2, .v (ti b)), (3, .v (ti n)), (10, .v (ti y.X1.length))], setO objs r (.arr ver e 5 (y.D A M B)), N + 200, N, []⟩)
    (fun y => X = y.X1 ++ y.X2 ∧ Y = y.Y1 ++ y.Y2 ∧ y.X1.length = y.Y1.length) (fun y => y.X2.length) ⟨[], X, [], Y⟩ ?_ (by simp) (fun y hy => ?_)
  · have : Sw.D A M B ⟨[], X, [], Y⟩ = D := by simp only [Sw.D, List.nil_append]; exact hD.symm
    rw [this]
    exact Le.same (hfr _) (by simp)
  obtain ⟨X1, X2, Y1, Y2⟩ := y
  obtain ⟨e1, e2, e3⟩ := hy
  simp only at e1 e2 e3 ⊢
  have l1 : X1.length + X2.length = n := by rw [← lX, e1]; simp
  have l2 : Y1.length + Y2.length = n := by rw [← lY, e2]; simp
  refine SatD.seq ?_
  refine SatD.regSeq hΓ follows [0, 1, 2, 3, 10, 13] ?_
  simp [d52r1]
  refine SatD.cond rfl (fun h => ?_) (fun h => ?_)
  · simp at h
    match X2, Y2, l1, l2 with
    | [], _, l1, l2 => simp at l1; omega
    | _, [], l1, l2 => simp at l2; omega
    | x :: X2, y :: Y2, l1, l2 =>
    have hx : rowOk 5 x := hrows x (by rw [hD, e1]; simp)
    have hy : rowOk 5 y := hrows y (by rw [hD, e2]; simp)
    simp only [List.length_cons] at l1 l2
    obtain ⟨i, hi⟩ : ∃ i, X1.length = i := ⟨_, rfl⟩
    obtain ⟨p, hp⟩ : ∃ p, a + i = p := ⟨_, rfl⟩
    obtain ⟨q, hq⟩ : ∃ q, b + i = q := ⟨_, rfl⟩
    obtain ⟨Dc, hDc⟩ : ∃ Dc, Sw.D A M B ⟨X1, x :: X2, Y1, y :: Y2⟩ = Dc := ⟨_, rfl⟩
    have hl : Dc.length = D.length := by rw [← hDc, hL]; simp [Sw.D]; omega
    have hw1 : IntKind.i64.wrap ((a : Int) + i) = p := by rw [wrap_id (by omega)]; omega
    have hw2 : IntKind.i64.wrap ((b : Int) + i) = q := by rw [wrap_id (by omega)]; omega
    have g1 : DM.rowAt Dc p = x := by
      rw [← hDc, show Sw.D A M B ⟨X1, x :: X2, Y1, y :: Y2⟩ = (A ++ Y1) ++ (x :: (X2 ++ (M ++ (X1 ++ (y :: (Y2 ++ B)))))) by simp [Sw.D]]
      exact rowAt_app (by simp; omega)
    have g2 : DM.rowAt Dc q = y := by
      rw [← hDc, show Sw.D A M B ⟨X1, x :: X2, Y1, y :: Y2⟩ = (A ++ Y1 ++ x :: X2 ++ M ++ X1) ++ (y :: (Y2 ++ B)) by simp [Sw.D]]
      exact rowAt_app (by simp; omega)
    have g3 : (Dc.set p y).set q x = Sw.D A M B ⟨X1 ++ [x], X2, Y1 ++ [y], Y2⟩ := by
      rw [← hDc, show Sw.D A M B ⟨X1, x :: X2, Y1, y :: Y2⟩ = (A ++ Y1) ++ (x :: (X2 ++ (M ++ (X1 ++ (y :: (Y2 ++ B)))))) by simp [Sw.D]]
      rw [set_app (by simp; omega), show (A ++ Y1) ++ (y :: (X2 ++ (M ++ (X1 ++ (y :: (Y2 ++ B)))))) = (A ++ Y1 ++ y :: X2 ++ M ++ X1) ++ (y :: (Y2 ++ B)) by simp]
      rw [set_app (by simp; omega)]
      simp [Sw.D]
    have g4 : DM.rowAt (Dc.set p y) q = y := by
      rw [← hDc, show Sw.D A M B ⟨X1, x :: X2, Y1, y :: Y2⟩ = (A ++ Y1) ++ (x :: (X2 ++ (M ++ (X1 ++ (y :: (Y2 ++ B)))))) by simp [Sw.D]]
      rw [set_app (by simp; omega), show (A ++ Y1) ++ (y :: (X2 ++ (M ++ (X1 ++ (y :: (Y2 ++ B)))))) = (A ++ Y1 ++ y :: X2 ++ M ++ X1) ++ (y :: (Y2 ++ B)) by simp]
      exact rowAt_app (by simp; omega)
    refine SatD.skip ?_
    simp
    refine SatD.seq ?_
    refine SatD.block ?_ -- 1
    refine SatD.reg hΓ follows [0, 1, 2, 3, 10] ?_
    rw [hDc]
    simp [d52r2, hi, hw1, hw2, g1, g2, g4, hl, hx.1, hy.1, pureCells_map hx.2, pureCells_map hy.2, tk hx.1, tk hy.1, tkm hx.1, tkm hy.1, dr hx.1, dr hy.1]
    repeat refine ⟨by omega, ?_⟩
    rw [g3]
    refine SatD.reg hΓ follows [0, 1, 2, 3, 10] ?_
    simp [d52r3]
    refine ⟨⟨X1 ++ [x], X2, Y1 ++ [y], Y2⟩, ?_, ?_, ?_⟩
    · refine Le.same (hfr _) ?_
      simp
      rw [wrap_id (by omega)]; omega
    · simp [e1, e2, ← e3, hi]
    · simp
  · simp at h
    refine SatD.exit ?_
    have hX2 : X2 = [] := List.eq_nil_of_length_eq_zero (by omega)
    have hY2 : Y2 = [] := List.eq_nil_of_length_eq_zero (by omega)
    subst hX2 hY2
    simp at e1 e2
    subst e1 e2
    have : swapAt D a b n = Sw.D A M B ⟨X, [], Y, []⟩ := by
      rw [hD, swapAt_app A X M Y B lA lX (by omega) lY]
      simp [Sw.D]
    simp [d52res, this]
end
end Go.Proofs
namespace Go.Proofs
open Go.DM Go.DM.Srt
set_option linter.unusedSimpArgs false
set_option linter.unusedVariables false

def k52 : List DV → Obs → SRes
  | [.aref r ver, .v (.int .i64 a), .v (.int .i64 b), .v (.int .i64 n), .v g], objs => match objs r with
    | some (.arr ver' e sz D) => ⟨ver = ver' ∧ sz = 5 ∧ (∀ x ∈ D, rowOk 5 x) ∧ 0 ≤ a ∧ 0 ≤ n ∧ a + n ≤ b ∧ b + n ≤ D.length ∧ D.length ≤ 140737488355328, .v (.tup []), setO objs r (.arr ver e 5 (swapAt D a.toNat b.toNat n.toNat))⟩
    | _ => ⟨False, .undef, objs⟩
  | _, objs => ⟨False, .undef, objs⟩
def Γ52 : Env := envOf [(52, specS k52)]
theorem ok52 : EnvOk Try.prog Γ52 := by
  refine EnvOk.consS EnvOk.nil ?_
  intro args objs h
  unfold k52 at h ⊢
  split at h
  · split at h
    · rename_i a b n g _ ver' e sz D hob
      obtain ⟨rfl, rfl, h1, h2, h3, h4, h5, h6⟩ := h
      have ea : a = (a.toNat : Int) := by omega
      have eb : b = (b.toNat : Int) := by omega
      have en : n = (n.toNat : Int) := by omega
      refine ⟨fun N hN => ?_, fun k hk => setO_none hob hk⟩
      have := t52 D a.toNat b.toNat n.toNat objs _ _ e g hob h1 (by omega) (by omega) h6 hN
      rw [← ea, ← eb, ← en] at this
      simp only [hob]
      exact this.of rfl rfl
    · exact h.elim
  · exact h.elim

structure Ro where
  (A P Q B : List (List T))
def Ro.D (s : Ro) : List (List T) := s.A ++ (s.P ++ (s.Q ++ s.B))

set_option maxRecDepth 20000 in
theorem t51 (D : List (List T)) (a m b : Nat) (objs : Obs) (r ver e : Nat) (g : T) (hob : objs r = some (.arr ver e 5 D)) (hrows : ∀ x ∈ D, rowOk 5 x) (h1 : a < m) (h2 : m < b) (h2 : b ≤ D.length) (h3 : D.length ≤ 140737488355328)
    {N : Nat} (hN : ∀ r, N ≤ r → objs r = none) : CallsS Try.prog 51 [.aref r ver, .v (ti a), .v (ti m), .v (ti b), .v g] objs ⟨True, .v (.tup []), setO objs r (.arr ver e 5 (rotAt D a m b))⟩ := by
  have hΓ := ok52
  have hfr : ∀ o k, N + 200 ≤ k → setO objs r o k = none := fun o k hk => setO_none hob (hN k (by omega))
  refine c51.okS hN (by simp) (initS_sat ?_)
  rw [setO_self hob]
  simp
  have w1 : IntKind.i64.wrap ((m : Int) - a) = ((m - a : Nat) : Int) := by rw [wrap_id (by omega)]; omega
  have w2 : IntKind.i64.wrap ((b : Int) - m) = ((b - m : Nat) : Int) := by rw [wrap_id (by omega)]; omega
  refine SatD.regSeq hΓ follows [0, 2, 3, 4, 10] ?_
  simp [d51r0, w1]
  refine SatD.regSeq hΓ follows [0, 2, 4, 10, 11] ?_
  simp [d51r1, w2]
  refine SatD.seq ?_
  refine SatD.block ?_ -- 0
  have hD := split4 D (a := a) (m := m) (b := b) (by omega) (by omega)
  have lA : (D.take a).length = a := by simp; omega
  have lP : (seg D a m).length = m - a := by simp; omega
  have lQ : (seg D m b).length = b - m := by simp; omega
  have hF : rotAt D a m b = D.take a ++ (seg D m b ++ (seg D a m ++ D.drop b)) := rfl
  refine SatD.loop (fun y : Ro => ⟨DM.look [(0, .aref r ver), (2, .v (ti m)), (4, .v g), (10, .v (ti y.P.length)), (11, .v (ti y.Q.length))], setO objs r (.arr ver e 5 y.D), N + 200, N, []⟩)
    (fun y => y.A.length + y.P.length = m ∧ 0 < y.P.length ∧ 0 < y.Q.length ∧ y.A ++ (y.Q ++ (y.P ++ y.B)) = rotAt D a m b ∧ y.D.length = D.length ∧ ∀ x ∈ y.D, x ∈ D) (fun y => y.P.length + y.Q.length) ⟨D.take a, seg D a m, seg D m b, D.drop b⟩ ?_ ?_ (fun y hy => ?_)
  · simp only [Ro.D, ← hD]
    refine Le.same (hfr _) ?_
    simp
    omega
  · simp only [lA, lP, lQ, Ro.D, ← hD]
    exact ⟨by omega, by omega, by omega, by rw [hF], trivial, fun _ h => h⟩
  obtain ⟨A, P, Q, B⟩ := y
  obtain ⟨e1, e2, e3, e4, e5, e6⟩ := hy
  simp only at e1 e2 e3 e4 e5 e6 ⊢
  obtain ⟨Dc, hDc⟩ : ∃ Dc, Ro.D ⟨A, P, Q, B⟩ = Dc := ⟨_, rfl⟩
  obtain ⟨i, hi⟩ : ∃ i, P.length = i := ⟨_, rfl⟩
  obtain ⟨j, hj⟩ : ∃ j, Q.length = j := ⟨_, rfl⟩
  rw [hDc] at e5 e6
  have e5' : A.length + (i + (j + B.length)) = D.length := by rw [← e5, ← hDc]; simp [Ro.D, hi, hj]
  have hrc : ∀ x ∈ Dc, rowOk 5 x := fun x hx => hrows x (e6 x hx)
  have w3 : IntKind.i64.wrap ((m : Int) - i) = ((m - i : Nat) : Int) := by rw [wrap_id (by omega)]; omega
  refine SatD.seq ?_
  refine SatD.regSeq hΓ follows [0, 2, 4, 10, 11, 20] ?_
  simp [d51r2, hi, hj, hDc]
  refine SatD.cond rfl (fun h => ?_) (fun h => ?_)
  · simp at h
    refine SatD.skip ?_
    simp
    refine SatD.block ?_ -- 1
    refine SatD.regSeq hΓ follows [0, 2, 4, 10, 11, 23] ?_
    simp [d51r3]
    refine SatD.cond rfl (fun h4 => ?_) (fun h4 => ?_)
    · simp at h4
      refine SatD.regASeq hΓ follows (rs := d51r4S) (.inr ⟨_, rfl⟩) (by kernel_rfl) [0, 2, 4, 10, 11] ?_
      simp [d51r4S, Γ52, k52, w3]
      refine ⟨⟨hrc, by omega, by omega, by omega⟩, ?_⟩
      obtain ⟨P1, P2, rfl, lP1⟩ : ∃ P1 P2, P = P1 ++ P2 ∧ P1.length = j := ⟨P.take j, P.drop j, (List.take_append_drop j P).symm, by simp; omega⟩
      simp only [List.length_append] at hi
      have hsw : swapAt Dc (m - i) m j = Ro.D ⟨A ++ Q, P2, P1, B⟩ := by
        rw [← hDc]
        simp only [Ro.D, List.append_assoc]
        exact swapAt_app A P1 P2 Q B (by simp only [List.length_append] at e1; omega) lP1 (by simp only [List.length_append] at e1; omega) hj
      rw [hsw]
      have w4 : IntKind.i64.wrap ((i : Int) - j) = ((i - j : Nat) : Int) := by rw [wrap_id (by omega)]; omega
      refine SatD.reg hΓ follows [0, 2, 4, 10, 11] ?_
      simp [d51r5, w4]
      refine ⟨⟨A ++ Q, P2, P1, B⟩, ?_, ⟨?_, ?_, ?_, ?_, ?_, ?_⟩, ?_⟩
      · refine Le.same (hfr _) ?_
        simp; omega
      · simp only [List.length_append] at e1 ⊢; omega
      · simp only; omega
      · simp only; omega
      · rw [← e4]; simp
      · rw [← e5, ← hDc]; simp [Ro.D]; omega
      · intro x hx
        refine e6 x ?_
        rw [← hDc]
        simp only [Ro.D, List.mem_append] at hx ⊢
        rcases hx with (h | h) | h | h | h <;> simp [h]
      · simp only; omega
    · simp at h4
      have w4 : IntKind.i64.wrap (IntKind.i64.wrap ((m : Int) + j) - i) = ((m + j - i : Nat) : Int) := by rw [wrap_id (x := (m : Int) + j) (by omega), wrap_id (by omega)]; omega
      have w5 : IntKind.i64.wrap ((j : Int) - i) = ((j - i : Nat) : Int) := by rw [wrap_id (by omega)]; omega
      refine SatD.regASeq hΓ follows (rs := d51r6S) (.inr ⟨_, rfl⟩) (by kernel_rfl) [0, 2, 4, 10, 11] ?_
      simp [d51r6S, Γ52, k52, w3, w4]
      refine ⟨⟨hrc, by omega, by omega, by omega⟩, ?_⟩
      obtain ⟨Q1, Q2, rfl, lQ2⟩ : ∃ Q1 Q2, Q = Q1 ++ Q2 ∧ Q2.length = i := ⟨Q.take (j - i), Q.drop (j - i), (List.take_append_drop _ Q).symm, by simp; omega⟩
      simp only [List.length_append] at hj
      have hsw : swapAt Dc (m - i) (m + j - i) i = Ro.D ⟨A, Q2, Q1, P ++ B⟩ := by
        rw [← hDc]
        simp only [Ro.D, List.append_assoc]
        exact swapAt_app A P Q1 Q2 B (by omega) hi (by omega) lQ2
      rw [hsw]
      refine SatD.reg hΓ follows [0, 2, 4, 10, 11] ?_
      simp [d51r7, w5]
      refine ⟨⟨A, Q2, Q1, P ++ B⟩, ?_, ⟨?_, ?_, ?_, ?_, ?_, ?_⟩, ?_⟩
      · refine Le.same (hfr _) ?_
        simp; omega
      · simp only; omega
      · simp only; omega
      · simp only; omega
      · rw [← e4]; simp
      · rw [← e5, ← hDc]; simp [Ro.D]; omega
      · intro x hx
        refine e6 x ?_
        rw [← hDc]
        simp only [Ro.D, List.mem_append] at hx ⊢
        rcases hx with h | h | h | h | h <;> simp [h]
      · simp only; omega
  · simp at h
    refine SatD.exit ?_
    simp
    refine SatD.regA hΓ follows (rs := d51r8S) (.inr ⟨_, rfl⟩) (by kernel_rfl) [] ?_
    simp [d51r8S, Γ52, k52, w3]
    refine ⟨⟨hrc, by omega, by omega, by omega⟩, ?_⟩
    have hsw : swapAt Dc (m - i) m i = rotAt D a m b := by
      rw [← hDc, ← e4]
      simp only [Ro.D]
      exact swapAt_app A P [] Q B (by omega) hi (by simp; omega) (by omega)
    simp [d51res, hsw]
end Go.Proofs
namespace Go.Proofs
open Go.DM Go.DM.Srt
set_option linter.unusedSimpArgs false
set_option linter.unusedVariables false

def k51 : List DV → Obs → SRes
  | [.aref r ver, .v (.int .i64 a), .v (.int .i64 m), .v (.int .i64 b), .v g], objs => match objs r with
    | some (.arr ver' e sz D) => ⟨ver = ver' ∧ sz = 5 ∧ (∀ x ∈ D, rowOk 5 x) ∧ 0 ≤ a ∧ a < m ∧ m < b ∧ b ≤ D.length ∧ D.length ≤ 140737488355328, .v (.tup []), setO objs r (.arr ver e 5 (rotAt D a.toNat m.toNat b.toNat))⟩
    | _ => ⟨False, .undef, objs⟩
  | _, objs => ⟨False, .undef, objs⟩
def k50 (good : List T → Prop) (cmpF : List T → List T → Int) (N : Nat) : List DV → Obs → SRes
  | [.aref r ver, .v (.int .i64 a), .v (.int .i64 m), .v (.int .i64 b), .v (.fn (.func c) caps)], objs => match objs r with
    | some (.arr ver' e sz D) => ⟨ver = ver' ∧ sz = 5 ∧ c = 36 ∧ caps = [] ∧ (∀ x ∈ D, good x) ∧ 0 ≤ a ∧ a < m ∧ m < b ∧ b ≤ D.length ∧ D.length ≤ 140737488355328 ∧ b - a < N ∧ Sorted (ltF cmpF) (seg D a.toNat m.toNat) ∧ Sorted (ltF cmpF) (seg D m.toNat b.toNat),
        .v (.tup []), setO objs r (.arr ver e 5 (sortAt (ltF cmpF) D a.toNat b.toNat))⟩
    | _ => ⟨False, .undef, objs⟩
  | _, objs => ⟨False, .undef, objs⟩
def Γ50 (good : List T → Prop) (cmpF : List T → List T → Int) (N : Nat) : Env := envOf [(50, specS (k50 good cmpF N)), (51, specS k51), (36, cmpSpec good cmpF)]

theorem ok51 {good : List T → Prop} {cmpF : List T → List T → Int} (hc : CmpOk good cmpF 36 5) : EnvOk Try.prog (envOf [(51, specS k51), (36, cmpSpec good cmpF)]) := by
  refine EnvOk.consS (cmp_env hc) ?_
  intro args objs h
  unfold k51 at h ⊢
  split at h
  · split at h
    · rename_i a m b g _ ver' e sz D hob
      obtain ⟨rfl, rfl, h1, h2, h3, h4, h5, h6⟩ := h
      have ea : a = (a.toNat : Int) := by omega
      have eb : b = (b.toNat : Int) := by omega
      have en : m = (m.toNat : Int) := by omega
      refine ⟨fun N hN => ?_, fun k hk => setO_none hob hk⟩
      have := t51 D a.toNat m.toNat b.toNat objs _ _ e g hob h1 (by omega) (by omega) (by omega) h6 hN
      rw [← ea, ← eb, ← en] at this
      simp only [hob]
      exact this.of rfl rfl
    · exact h.elim
  · exact h.elim

theorem rowAt_nat (D : List (List T)) (k : Nat) : DM.rowAt D (k : Int) = D.getD k default := by simp [DM.rowAt]; rfl
theorem half {i j : Nat} (h : i + j ≤ 2 * 140737488355328) : IntKind.i64.wrap (IntKind.u64.wrap (IntKind.i64.wrap ((i : Int) + j)) / 2 ^ min 1 IntKind.u64.bits) = (((i + j) / 2 : Nat) : Int) := by
  have e : (2 : Int) ^ min 1 IntKind.u64.bits = 2 := rfl
  rw [e, wrap_id (x := (i : Int) + j) (by omega)]
  have : IntKind.u64.wrap ((i : Int) + j) = (i : Int) + j := by simp [IntKind.wrap, IntKind.bits, IntKind.signed]; omega
  rw [this, wrap_id (by omega)]
  omega
theorem adj {A B : List (List T)} {x y : List T} {k : Nat} (h : A.length = k) {k' : Nat} (hk : k' = k + 1) : DM.rowAt (A ++ (x :: y :: B)) k = x ∧ DM.rowAt (A ++ (x :: y :: B)) k' = y ∧ DM.rowAt ((A ++ (x :: y :: B)).set k y) k' = y ∧
    ((A ++ (x :: y :: B)).set k y).set k' x = A ++ (y :: x :: B) ∧ DM.rowAt ((A ++ (x :: y :: B)).set k' x) k = x ∧ ((A ++ (x :: y :: B)).set k' x).set k y = A ++ (y :: x :: B) := by
  subst h hk
  refine ⟨rowAt_app rfl, ?_, ?_, ?_, ?_, ?_⟩
  · rw [show A ++ (x :: y :: B) = (A ++ [x]) ++ (y :: B) by simp]; exact rowAt_app (by simp)
  · rw [set_app rfl, show A ++ (y :: y :: B) = (A ++ [y]) ++ (y :: B) by simp]; exact rowAt_app (by simp)
  · rw [set_app rfl, show A ++ (y :: y :: B) = (A ++ [y]) ++ (y :: B) by simp, set_app (by simp)]; simp
  · rw [show A ++ (x :: y :: B) = (A ++ [x]) ++ (y :: B) by simp, set_app (by simp), show (A ++ [x]) ++ (x :: B) = A ++ (x :: x :: B) by simp]; exact rowAt_app rfl
  · rw [show A ++ (x :: y :: B) = (A ++ [x]) ++ (y :: B) by simp, set_app (by simp), show (A ++ [x]) ++ (x :: B) = A ++ (x :: x :: B) by simp, set_app rfl]
theorem rotAt_triv {D : List (List T)} {s m e : Nat} (h1 : s ≤ m) (h2 : m ≤ e) (h : ¬ (s < m ∧ m < e)) : rotAt D s m e = D := by
  unfold rotAt
  by_cases h' : s = m
  · subst h'; rw [seg_self, List.nil_append, seg_drop D h2, List.take_append_drop]
  · have : m = e := by omega
    subst this; rw [seg_self, List.nil_append, seg_drop D h1, List.take_append_drop]
theorem sorted_seg {lt : List T → List T → Bool} {D : List (List T)} {i j : Nat} (hj : j ≤ D.length) (h : Sorted lt (seg D i j)) : ∀ p q, i ≤ p → p < q → q < j → lt (D.getD q default) (D.getD p default) = false := by
  intro p q h1 h2 h3
  unfold Sorted at h
  rw [List.pairwise_iff_getElem] at h
  have hl : (seg D i j).length = j - i := by simp; omega
  have := h (p - i) (q - i) (by omega) (by omega) (by omega)
  unfold seg at this
  rw [List.getElem_take, List.getElem_take, List.getElem_drop, List.getElem_drop] at this
  rw [List.getD_eq_getElem?_getD, List.getD_eq_getElem?_getD, List.getElem?_eq_getElem (by omega), List.getElem?_eq_getElem (by omega)]
  simpa only [Option.getD_some, show i + (p - i) = p by omega, show i + (q - i) = q by omega] using this

structure IJ where
  (i j : Nat)
structure PQ where
  (P Q : List (List T))

set_option maxRecDepth 20000 in
set_option maxHeartbeats 4000000 in
theorem t50s {good : List T → Prop} {cmpF : List T → List T → Int} (hc : CmpOk good cmpF 36 5) (hw : SWO (ltF cmpF)) (F : Nat) (hΓ : EnvOk Try.prog (Γ50 good cmpF F))
    (D : List (List T)) (a m b : Nat) (objs : Obs) (r ver e : Nat) (hob : objs r = some (.arr ver e 5 D)) (hrows : ∀ x ∈ D, good x) (h1 : a < m) (h2 : m < b) (h3 : b ≤ D.length) (h4 : D.length ≤ 140737488355328) (hF : b - a < F + 1)
    (sL : Sorted (ltF cmpF) (seg D a m)) (sR : Sorted (ltF cmpF) (seg D m b))
    {N : Nat} (hN : ∀ r, N ≤ r → objs r = none) : CallsS Try.prog 50 [.aref r ver, .v (ti a), .v (ti m), .v (ti b), .v (.fn (.func 36) [])] objs ⟨True, .v (.tup []), setO objs r (.arr ver e 5 (sortAt (ltF cmpF) D a b))⟩ := by
  have hfr : ∀ o k, N + 1000 ≤ k → setO objs r o k = none := fun o k hk => setO_none hob (hN k (by omega))
  have gl := sorted_seg (by omega) sL
  have gr := sorted_seg (by omega) sR
  have hgood : ∀ k, k < D.length → good (D.getD k default) := fun k hk => hrows _ (by rw [List.getD_eq_getElem?_getD, List.getElem?_eq_getElem hk]; simp)
  have hmem : ∀ i j x, x ∈ seg D i j → ∃ k, i ≤ k ∧ k < j ∧ k < D.length ∧ D.getD k default = x := fun i j x h => mem_seg.1 h
  have hrow := rowAt_nat D
  obtain ⟨lt, hlt, hlt2⟩ : ∃ lt : List T → List T → Bool, ltF cmpF = lt ∧ ∀ x y, decide (cmpF x y < 0) = lt x y := ⟨_, rfl, fun _ _ => rfl⟩
  rw [hlt] at hw sL sR gl gr ⊢
  obtain ⟨g, hg⟩ : ∃ g : Nat → List T, ∀ k : Nat, D.getD k default = g k := ⟨_, fun _ => rfl⟩
  simp only [hg] at gl gr hgood hmem hrow
  have hgr := fun k hk => hc.row _ (hgood k hk)
  refine c50.okS hN (by simp) (initS_sat ?_)
  rw [setO_self hob]
  simp
  have w1 : IntKind.i64.wrap ((m : Int) - a) = ((m - a : Nat) : Int) := by rw [wrap_id (by omega)]; omega
  have w2 : IntKind.i64.wrap ((b : Int) - m) = ((b - m : Nat) : Int) := by rw [wrap_id (by omega)]; omega
  refine SatD.seq ?_
  refine SatD.regSeq hΓ follows [0, 1, 2, 3, 4, 28] ?_
  simp [d50r0, w1]
  refine SatD.cond rfl (fun c1 => ?_) (fun c1 => ?_)
  · simp at c1
    refine SatD.regSeq hΓ follows [0, 1, 3, 4, 10] ?_
    simp [d50r1]
    refine SatD.regSeq hΓ follows [0, 1, 4, 10, 11] ?_
    simp [d50r2]
    refine SatD.seq ?_
    refine SatD.block ?_ -- 0
    refine SatD.loop (fun y : IJ => ⟨DM.look [(0, .aref r ver), (1, .v (ti a)), (4, .v (.fn (.func 36) [])), (10, .v (ti y.i)), (11, .v (ti y.j))], setO objs r (.arr ver e 5 D), N + 1000, N, []⟩)
      (fun y => m ≤ y.i ∧ y.i ≤ y.j ∧ y.j ≤ b ∧ (∀ k, m ≤ k → k < y.i → lt (g k) (g a) = true) ∧ ∀ k, y.j ≤ k → k < b → lt (g k) (g a) = false) (fun y => y.j - y.i) ⟨m, b⟩ ?_ ?_ (fun y hy => ?_)
    · exact Le.same (hfr _) (by simp)
    · exact ⟨by simp, by simp; omega, by simp, fun k k1 k2 => by simp at k2; omega, fun k k1 k2 => by simp at k1; omega⟩
    obtain ⟨i, j⟩ := y
    obtain ⟨p1, p2, p3, p4, p5⟩ := hy
    simp only at p1 p2 p3 p4 p5 ⊢
    refine SatD.seq ?_
    refine SatD.regSeq hΓ follows [0, 1, 4, 10, 11, 33] ?_
    simp [d50r3]
    refine SatD.cond rfl (fun h => ?_) (fun h => ?_)
    · simp at h
      refine SatD.skip ?_
      simp
      refine SatD.block ?_ -- 1
      refine SatD.regSeq hΓ follows [0, 1, 4, 10, 11, 12] ?_
      obtain ⟨c, hcc⟩ : ∃ c, (i + j) / 2 = c := ⟨_, rfl⟩
      have hh := half (i := i) (j := j) (by omega)
      rw [hcc] at hh
      simp [d50r4, hh]
      have hgc := hgr c (by omega)
      have hga := hgr a (by omega)
      refine SatD.regSeq hΓ follows [0, 1, 4, 10, 11, 12, 50] ?_
      simp [d50r5, hrow, hgc.1, hga.1, tk hgc.1, tk hga.1, Γ50, cmpSpec, hlt2, hgood c (by omega), hgood a (by omega)]
      refine ⟨by omega, by omega, ⟨_, _, ⟨rfl, rfl⟩, hgood c (by omega), hgood a (by omega)⟩, ?_⟩
      refine SatD.cond rfl (fun h5 => ?_) (fun h5 => ?_)
      · refine SatD.reg hΓ follows [0, 1, 4, 10, 11] ?_
        simp [d50r6]
        refine ⟨⟨c + 1, j⟩, Le.same (hfr _) ?_, ⟨by simp only; omega, by simp only; omega, p3, fun k k1 k2 => ?_, p5⟩, by simp only; omega⟩
        · simp
          rw [wrap_id (by omega)]
        · simp only at k2
          cases hkc : lt (g k) (g a) with
          | true => rfl
          | false =>
            by_cases hk : k = c
            · subst hk; rw [h5] at hkc; cases hkc
            · have := hw.ntrans _ _ _ (gr k c k1 (by omega) (by omega)) hkc
              rw [h5] at this; cases this
      · refine SatD.reg hΓ follows [0, 1, 4, 10, 11] ?_
        simp [d50r7]
        refine ⟨⟨i, c⟩, Le.same (hfr _) ?_, ⟨p1, by simp only; omega, by simp only; omega, p4, fun k k1 k2 => ?_⟩, by simp only; omega⟩
        · simp
        · simp only at k1
          by_cases hk : k = c
          · subst hk; exact h5
          · exact hw.ntrans _ _ _ (gr c k (by omega) (by omega) k2) h5
    · simp at h
      have hij : i = j := by omega
      subst hij
      refine SatD.exit ?_
      simp
      have hD : D = D.take a ++ (seg D a m ++ (seg D m i ++ (seg D i b ++ D.drop b))) := by
        rw [seg_drop D (by omega), seg_drop D (by omega), seg_drop D (by omega), List.take_append_drop]
      have lA : (D.take a).length = a := by simp; omega
      have lX : (seg D a m).length = 1 := by simp; omega
      have l1 : (seg D m i).length = i - m := by simp; omega
      have l2 : (seg D i b).length = b - i := by simp; omega
      have lB : (D.drop b).length = D.length - b := by simp
      obtain ⟨x, hX⟩ := List.length_eq_one_iff.1 lX
      have hxg : x = g a := by
        obtain ⟨k, k1, k2, k3, k4⟩ := hmem a m x (by rw [hX]; simp)
        rw [← k4, show k = a by omega]
      have hR1 : ∀ z ∈ seg D m i, lt z x = true := by
        intro z hz
        obtain ⟨k, k1, k2, k3, k4⟩ := hmem _ _ z hz
        rw [← k4, hxg]; exact p4 k k1 k2
      have hR2 : ∀ z ∈ seg D i b, lt z x = false := by
        intro z hz
        obtain ⟨k, k1, k2, k3, k4⟩ := hmem _ _ z hz
        rw [← k4, hxg]; exact p5 k k1 k2
      rw [seg_append D p1 p3] at sR
      have hins := ins_front hw sR hR1 hR2
      rw [hX] at hD
      generalize D.take a = A at *
      generalize seg D m i = R1 at *
      generalize seg D i b = R2 at *
      generalize D.drop b = B at *
      have hfin : sortAt lt D a b = A ++ (R1 ++ (x :: (R2 ++ B))) := by
        rw [hD, show A ++ ([x] ++ (R1 ++ (R2 ++ B))) = A ++ ((x :: (R1 ++ R2)) ++ B) by simp, sortAt_app lt A _ B lA (by simp; omega), hins]
        simp
      have hall : ∀ z, (z = x ∨ z ∈ R1) → rowOk 5 z := by
        intro z hz
        refine hc.row z (hrows z ?_)
        rw [hD]
        rcases hz with rfl | hz <;> simp [*]
      have hxo := hall x (.inl rfl)
      refine SatD.seq ?_
      refine SatD.regSeq hΓ follows [0, 10, 13] ?_
      simp [d50r8]
      refine SatD.block ?_ -- 2
      refine SatD.loop (fun y : PQ => ⟨DM.look [(0, .aref r ver), (10, .v (ti i)), (13, .v (ti ((a + y.P.length : Nat) : Int)))], setO objs r (.arr ver e 5 (A ++ (y.P ++ (x :: (y.Q ++ (R2 ++ B)))))), N + 1000, N, []⟩)
        (fun y => R1 = y.P ++ y.Q) (fun y => y.Q.length) ⟨[], R1⟩ ?_ (by simp) (fun y hy => ?_)
      · have e1 : A ++ ([] ++ (x :: (R1 ++ (R2 ++ B)))) = D := by rw [hD]; simp
        simp only [e1]
        refine Le.same (hfr _) ?_
        simp
      obtain ⟨P, Q⟩ := y
      simp only at hy ⊢
      have lPQ : P.length + Q.length = i - m := by rw [← l1, hy]; simp
      obtain ⟨k, hk⟩ : ∃ k, a + P.length = k := ⟨_, rfl⟩
      have w3 : IntKind.i64.wrap ((i : Int) - 1) = ((i - 1 : Nat) : Int) := by rw [wrap_id (by omega)]; omega
      rw [hk]
      refine SatD.seq ?_
      refine SatD.regSeq hΓ follows [0, 10, 13, 58] ?_
      simp [d50r9, w3]
      refine SatD.cond rfl (fun h => ?_) (fun h => ?_)
      · simp at h
        match Q, lPQ with
        | [], lPQ => simp at lPQ; omega
        | q :: Q, lPQ =>
        simp only [List.length_cons] at lPQ
        have hqo := hall q (.inr (by rw [hy]; simp))
        obtain ⟨k', hk'⟩ : ∃ k', k' = k + 1 := ⟨_, rfl⟩
        have w4 : IntKind.i64.wrap ((k : Int) + 1) = (k' : Int) := by rw [wrap_id (by omega)]; omega
        obtain ⟨q1, q2, q3, q4, _, _⟩ := adj (A := A ++ P) (B := Q ++ (R2 ++ B)) (x := x) (y := q) (k := k) (by simp; omega) hk'
        obtain ⟨Dc, hDc⟩ : ∃ Dc, (A ++ P) ++ (x :: q :: (Q ++ (R2 ++ B))) = Dc := ⟨_, rfl⟩
        rw [hDc] at q1 q2 q3 q4
        have hl : Dc.length = D.length := by rw [← hDc, hD, hy]; simp; omega
        refine SatD.skip ?_
        simp
        refine SatD.seq ?_
        refine SatD.block ?_ -- 3
        rw [show A ++ (P ++ x :: q :: (Q ++ (R2 ++ B))) = Dc by rw [← hDc]; simp]
        refine SatD.reg hΓ follows [0, 10, 13] ?_
        simp [d50r10, w4, q1, q2, q3, q4, hl, hxo.1, hqo.1, tk hxo.1, tk hqo.1, tkm hxo.1, tkm hqo.1, dr hxo.1, dr hqo.1, pureCells_map hxo.2, pureCells_map hqo.2]
        repeat refine ⟨by omega, ?_⟩
        refine SatD.reg hΓ follows [0, 10, 13] ?_
        simp [d50r11, w4]
        refine ⟨⟨P ++ [q], Q⟩, ?_, ?_, ?_⟩
        · rw [show A ++ ((P ++ [q]) ++ x :: (Q ++ (R2 ++ B))) = A ++ (P ++ q :: x :: (Q ++ (R2 ++ B))) by simp]
          refine Le.same (hfr _) ?_
          simp; omega
        · simp [hy]
        · simp
      · simp at h
        have hQ : Q = [] := List.eq_nil_of_length_eq_zero (by omega)
        subst hQ
        rw [List.append_nil] at hy
        subst hy
        refine SatD.exit ?_
        simp
        refine SatD.ret ?_
        simp [d50res, hfin]
  simp at c1
  refine SatD.skip ?_
  simp
  refine SatD.seq ?_
  refine SatD.regSeq hΓ follows [0, 1, 2, 3, 4, 80] ?_
  simp [d50r12, w2]
  refine SatD.cond rfl (fun c2 => ?_) (fun c2 => ?_)
  · simp at c2
    refine SatD.regSeq hΓ follows [0, 2, 4, 14] ?_
    simp [d50r13]
    refine SatD.regSeq hΓ follows [0, 2, 4, 14, 15] ?_
    simp [d50r14]
    refine SatD.seq ?_
    refine SatD.block ?_ -- 4
    refine SatD.loop (fun y : IJ => ⟨DM.look [(0, .aref r ver), (2, .v (ti m)), (4, .v (.fn (.func 36) [])), (14, .v (ti y.i)), (15, .v (ti y.j))], setO objs r (.arr ver e 5 D), N + 1000, N, []⟩)
      (fun y => a ≤ y.i ∧ y.i ≤ y.j ∧ y.j ≤ m ∧ (∀ k, a ≤ k → k < y.i → lt (g m) (g k) = false) ∧ ∀ k, y.j ≤ k → k < m → lt (g m) (g k) = true) (fun y => y.j - y.i) ⟨a, m⟩ ?_ ?_ (fun y hy => ?_)
    · exact Le.same (hfr _) (by simp)
    · exact ⟨by simp, by simp; omega, by simp, fun k k1 k2 => by simp at k2; omega, fun k k1 k2 => by simp at k1; omega⟩
    obtain ⟨i, j⟩ := y
    obtain ⟨p1, p2, p3, p4, p5⟩ := hy
    simp only at p1 p2 p3 p4 p5 ⊢
    refine SatD.seq ?_
    refine SatD.regSeq hΓ follows [0, 2, 4, 14, 15, 85] ?_
    simp [d50r15]
    refine SatD.cond rfl (fun h => ?_) (fun h => ?_)
    · simp at h
      refine SatD.skip ?_
      simp
      refine SatD.block ?_ -- 5
      refine SatD.regSeq hΓ follows [0, 2, 4, 14, 15, 16] ?_
      obtain ⟨c, hcc⟩ : ∃ c, (i + j) / 2 = c := ⟨_, rfl⟩
      have hh := half (i := i) (j := j) (by omega)
      rw [hcc] at hh
      simp [d50r16, hh]
      have hgc := hgr c (by omega)
      have hgm := hgr m (by omega)
      refine SatD.regSeq hΓ follows [0, 2, 4, 14, 15, 16, 103] ?_
      simp [d50r17, hrow, hgc.1, hgm.1, tk hgc.1, tk hgm.1, Γ50, cmpSpec, hlt2, hgood c (by omega), hgood m (by omega)]
      refine ⟨by omega, by omega, ⟨_, _, ⟨rfl, rfl⟩, hgood m (by omega), hgood c (by omega)⟩, ?_⟩
      refine SatD.cond rfl (fun h5 => ?_) (fun h5 => ?_)
      · simp only [Bool.not_eq_true'] at h5
        refine SatD.reg hΓ follows [0, 2, 4, 14, 15] ?_
        simp [d50r18]
        refine ⟨⟨c + 1, j⟩, Le.same (hfr _) ?_, ⟨by simp only; omega, by simp only; omega, p3, fun k k1 k2 => ?_, p5⟩, by simp only; omega⟩
        · simp
          rw [wrap_id (by omega)]
        · simp only at k2
          by_cases hk : k = c
          · subst hk; exact h5
          · exact hw.ntrans _ _ _ h5 (gl k c k1 (by omega) (by omega))
      · simp only [Bool.not_eq_false'] at h5
        refine SatD.reg hΓ follows [0, 2, 4, 14, 15] ?_
        simp [d50r19]
        refine ⟨⟨i, c⟩, Le.same (hfr _) ?_, ⟨p1, by simp only; omega, by simp only; omega, p4, fun k k1 k2 => ?_⟩, by simp only; omega⟩
        · simp
        · simp only at k1
          cases hkc : lt (g m) (g k) with
          | true => rfl
          | false =>
            by_cases hk : k = c
            · subst hk; rw [h5] at hkc; cases hkc
            · have := hw.ntrans _ _ _ hkc (gl c k (by omega) (by omega) k2)
              rw [h5] at this; cases this
    · simp at h
      have hij : i = j := by omega
      subst hij
      refine SatD.exit ?_
      simp
      have hD : D = D.take a ++ (seg D a i ++ (seg D i m ++ (seg D m b ++ D.drop b))) := by
        rw [seg_drop D (by omega), seg_drop D (by omega), seg_drop D (by omega), List.take_append_drop]
      have lA : (D.take a).length = a := by simp; omega
      have lX : (seg D m b).length = 1 := by simp; omega
      have l1 : (seg D a i).length = i - a := by simp; omega
      have l2 : (seg D i m).length = m - i := by simp; omega
      have lB : (D.drop b).length = D.length - b := by simp
      obtain ⟨x, hX⟩ := List.length_eq_one_iff.1 lX
      have hxg : x = g m := by
        obtain ⟨k, k1, k2, k3, k4⟩ := hmem m b x (by rw [hX]; simp)
        rw [← k4, show k = m by omega]
      have hR1 : ∀ z ∈ seg D a i, lt x z = false := by
        intro z hz
        obtain ⟨k, k1, k2, k3, k4⟩ := hmem _ _ z hz
        rw [← k4, hxg]; exact p4 k k1 k2
      have hR2 : ∀ z ∈ seg D i m, lt x z = true := by
        intro z hz
        obtain ⟨k, k1, k2, k3, k4⟩ := hmem _ _ z hz
        rw [← k4, hxg]; exact p5 k k1 k2
      rw [seg_append D p1 p3] at sL
      have hins := ins_back hw sL hR1 hR2
      rw [hX] at hD
      generalize D.take a = A at *
      generalize seg D a i = L1 at *
      generalize seg D i m = L2 at *
      generalize D.drop b = B at *
      have hfin : sortAt lt D a b = A ++ (L1 ++ (x :: (L2 ++ B))) := by
        rw [hD, show A ++ (L1 ++ (L2 ++ ([x] ++ B))) = A ++ ((L1 ++ L2 ++ [x]) ++ B) by simp, sortAt_app lt A _ B lA (by simp; omega), hins]
        simp
      have hall : ∀ z, (z = x ∨ z ∈ L2) → rowOk 5 z := by
        intro z hz
        refine hc.row z (hrows z ?_)
        rw [hD]
        rcases hz with rfl | hz <;> simp [*]
      have hxo := hall x (.inl rfl)
      refine SatD.seq ?_
      refine SatD.regSeq hΓ follows [0, 14, 17] ?_
      simp [d50r20]
      refine SatD.block ?_ -- 6
      refine SatD.loop (fun y : PQ => ⟨DM.look [(0, .aref r ver), (14, .v (ti i)), (17, .v (ti ((i + y.P.length : Nat) : Int)))], setO objs r (.arr ver e 5 (A ++ (L1 ++ (y.P ++ (x :: (y.Q ++ B)))))), N + 1000, N, []⟩)
        (fun y => L2 = y.P ++ y.Q) (fun y => y.P.length) ⟨L2, []⟩ ?_ (by simp) (fun y hy => ?_)
      · have e1 : A ++ (L1 ++ (L2 ++ (x :: ([] ++ B)))) = D := by rw [hD]; simp
        simp only [e1]
        refine Le.same (hfr _) ?_
        simp; omega
      obtain ⟨P, Q⟩ := y
      simp only at hy ⊢
      have lPQ : P.length + Q.length = m - i := by rw [← l2, hy]; simp
      obtain ⟨k, hk⟩ : ∃ k, i + P.length = k := ⟨_, rfl⟩
      rw [hk]
      refine SatD.seq ?_
      refine SatD.regSeq hΓ follows [0, 14, 17, 110] ?_
      simp [d50r21]
      refine SatD.cond rfl (fun h => ?_) (fun h => ?_)
      · simp at h
        rcases List.eq_nil_or_concat P with rfl | ⟨P', q, rfl⟩
        · simp at hk; omega
        simp only [List.concat_eq_append] at *
        simp only [List.length_append, List.length_cons, List.length_nil] at hk lPQ
        have hqo := hall q (.inr (by rw [hy]; simp))
        obtain ⟨k', hk'⟩ : ∃ k', k = k' + 1 := ⟨k - 1, by omega⟩
        have w4 : IntKind.i64.wrap ((k : Int) - 1) = (k' : Int) := by rw [wrap_id (by omega)]; omega
        obtain ⟨q1, q2, _, _, q3, q4⟩ := adj (A := A ++ (L1 ++ P')) (B := Q ++ B) (x := q) (y := x) (k := k') (by simp; omega) hk'
        obtain ⟨Dc, hDc⟩ : ∃ Dc, (A ++ (L1 ++ P')) ++ (q :: x :: (Q ++ B)) = Dc := ⟨_, rfl⟩
        rw [hDc] at q1 q2 q3 q4
        have hl : Dc.length = D.length := by rw [← hDc, hD, hy]; simp; omega
        refine SatD.skip ?_
        simp
        refine SatD.seq ?_
        refine SatD.block ?_ -- 7
        rw [show A ++ (L1 ++ (P' ++ q :: x :: (Q ++ B))) = Dc by rw [← hDc]; simp]
        refine SatD.reg hΓ follows [0, 14, 17] ?_
        simp [d50r22, w4, q1, q2, q3, q4, hl, hxo.1, hqo.1, tk hxo.1, tk hqo.1, tkm hxo.1, tkm hqo.1, dr hxo.1, dr hqo.1, pureCells_map hxo.2, pureCells_map hqo.2]
        repeat refine ⟨by omega, ?_⟩
        refine SatD.reg hΓ follows [0, 14, 17] ?_
        simp [d50r23, w4]
        refine ⟨⟨P', q :: Q⟩, ?_, ?_, ?_⟩
        · rw [show A ++ (L1 ++ (P' ++ x :: (q :: Q ++ B))) = A ++ (L1 ++ (P' ++ x :: q :: (Q ++ B))) by simp]
          refine Le.same (hfr _) ?_
          simp; omega
        · simp [hy]
        · simp
      · simp at h
        have hQ : P = [] := List.eq_nil_of_length_eq_zero (by omega)
        subst hQ
        rw [List.nil_append] at hy
        subst hy
        refine SatD.exit ?_
        simp
        refine SatD.ret ?_
        simp [d50res, hfin]
  simp at c2
  refine SatD.skip ?_
  simp
  obtain ⟨mid, hmid⟩ : ∃ mid, (a + b) / 2 = mid := ⟨_, rfl⟩
  have hh := half (i := a) (j := b) (by omega)
  rw [hmid] at hh
  refine SatD.regSeq hΓ follows [0, 1, 2, 3, 4, 18] ?_
  simp [d50r24, hh]
  obtain ⟨n, hn⟩ : ∃ n, mid + m = n := ⟨_, rfl⟩
  have hn' : IntKind.i64.wrap ((mid : Int) + m) = (n : Int) := by rw [wrap_id (by omega)]; omega
  refine SatD.regSeq hΓ follows [0, 1, 2, 3, 4, 18, 19] ?_
  simp [d50r25, hn']
  refine SatD.regSeq hΓ follows [0, 1, 2, 3, 4, 18, 19] ?_
  simp [d50r26]
  refine SatD.seq ?_
  refine SatD.regSeq hΓ follows [0, 1, 2, 3, 4, 18, 19, 140] ?_
  simp [d50r27]
  obtain ⟨s0, hs0⟩ : ∃ s0, (if mid < m then n - b else a) = s0 := ⟨_, rfl⟩
  obtain ⟨r0, hr0⟩ : ∃ r0, (if mid < m then mid else m) = r0 := ⟨_, rfl⟩
  refine SatD.to ⟨DM.look [(0, .aref r ver), (1, .v (ti a)), (2, .v (ti m)), (3, .v (ti b)), (4, .v (.fn (.func 36) [])), (18, .v (ti mid)), (19, .v (ti n)), (20, .v (ti s0)), (21, .v (ti r0))], setO objs r (.arr ver e 5 D), N + 1000, N, []⟩ ?_ ?_
  · refine SatD.cond rfl (fun c3 => ?_) (fun c3 => ?_)
    · simp at c3
      have e1 : s0 = n - b := by rw [← hs0, if_pos c3]
      have e2 : r0 = mid := by rw [← hr0, if_pos c3]
      refine SatD.regSeq hΓ follows [0, 1, 2, 3, 4, 18, 19, 20] ?_
      simp [d50r28]
      refine SatD.reg hΓ follows [0, 1, 2, 3, 4, 18, 19, 20, 21] ?_
      simp [d50r29]
      refine Le.same (hfr _) ?_
      simp
      refine ⟨?_, by omega⟩
      rw [wrap_id (by omega)]; omega
    · simp at c3
      have e1 : s0 = a := by rw [← hs0, if_neg (by omega)]
      have e2 : r0 = m := by rw [← hr0, if_neg (by omega)]
      refine SatD.regSeq hΓ follows [0, 1, 2, 3, 4, 18, 19, 20] ?_
      simp [d50r30]
      refine SatD.reg hΓ follows [0, 1, 2, 3, 4, 18, 19, 20, 21] ?_
      simp [d50r31]
      refine Le.same (hfr _) ?_
      simp [e1, e2]
  have hsr : a ≤ s0 ∧ s0 ≤ r0 ∧ r0 ≤ m ∧ r0 ≤ mid ∧ n - s0 ≤ b ∧ m ≤ n - r0 ∧ s0 ≤ n ∧ (s0 = a ∨ n - s0 = b) ∧ (r0 = m ∨ n - r0 = m) := by
    by_cases c3 : mid < m
    · rw [if_pos c3] at hs0 hr0; omega
    · rw [if_neg c3] at hs0 hr0; omega
  clear hs0 hr0
  obtain ⟨hs1, hs2, hs3, hs4, hs5, hs6, hs7, hs8, hs9⟩ := hsr
  have w3 : IntKind.i64.wrap ((n : Int) - 1) = ((n - 1 : Nat) : Int) := by rw [wrap_id (by omega)]; omega
  refine SatD.regSeq hΓ follows [0, 1, 2, 3, 4, 18, 19, 20, 21, 22] ?_
  simp [d50r32, w3]
  refine SatD.seq ?_
  refine SatD.block ?_ -- 8
  refine SatD.loop (fun y : IJ => ⟨DM.look [(0, .aref r ver), (1, .v (ti a)), (2, .v (ti m)), (3, .v (ti b)), (4, .v (.fn (.func 36) [])), (18, .v (ti mid)), (19, .v (ti n)), (20, .v (ti y.i)), (21, .v (ti y.j)), (22, .v (ti ((n - 1 : Nat) : Int)))], setO objs r (.arr ver e 5 D), N + 1000, N, []⟩)
    (fun y => s0 ≤ y.i ∧ y.i ≤ y.j ∧ y.j ≤ r0 ∧ (y.i = s0 ∨ lt (g (n - y.i)) (g (y.i - 1)) = false) ∧ (y.j = r0 ∨ lt (g (n - 1 - y.j)) (g y.j) = true)) (fun y => y.j - y.i) ⟨s0, r0⟩ ?_ ?_ (fun y hy => ?_)
  · exact Le.same (hfr _) (by simp)
  · exact ⟨by simp, by simp; omega, by simp, .inl rfl, .inl rfl⟩
  obtain ⟨i, j⟩ := y
  obtain ⟨p1, p2, p3, p4, p5⟩ := hy
  simp only at p1 p2 p3 p4 p5 ⊢
  refine SatD.seq ?_
  refine SatD.regSeq hΓ follows [0, 1, 2, 3, 4, 18, 19, 20, 21, 22, 151] ?_
  simp [d50r33]
  refine SatD.cond rfl (fun h => ?_) (fun h => ?_)
  · simp at h
    refine SatD.skip ?_
    simp
    refine SatD.block ?_ -- 9
    obtain ⟨c, hcc⟩ : ∃ c, (i + j) / 2 = c := ⟨_, rfl⟩
    have hh := half (i := i) (j := j) (by omega)
    rw [hcc] at hh
    refine SatD.regSeq hΓ follows [0, 1, 2, 3, 4, 18, 19, 20, 21, 22, 23] ?_
    simp [d50r34, hh]
    obtain ⟨q, hq⟩ : ∃ q, n - 1 - c = q := ⟨_, rfl⟩
    have w4 : IntKind.i64.wrap (((n - 1 : Nat) : Int) - c) = (q : Int) := by rw [wrap_id (by omega)]; omega
    have hgc := hgr c (by omega)
    have hgq := hgr q (by omega)
    refine SatD.regSeq hΓ follows [0, 1, 2, 3, 4, 18, 19, 20, 21, 22, 23, 171] ?_
    simp [d50r35, w4, hrow, hgc.1, hgq.1, tk hgc.1, tk hgq.1, Γ50, cmpSpec, hlt2]
    refine ⟨by omega, by omega, ⟨_, _, ⟨rfl, rfl⟩, hgood q (by omega), hgood c (by omega)⟩, ?_⟩
    refine SatD.cond rfl (fun h5 => ?_) (fun h5 => ?_)
    · simp only [Bool.not_eq_true'] at h5
      refine SatD.reg hΓ follows [0, 1, 2, 3, 4, 18, 19, 20, 21, 22] ?_
      simp [d50r36]
      refine ⟨⟨c + 1, j⟩, Le.same (hfr _) ?_, ⟨by simp only; omega, by simp only; omega, p3, .inr ?_, p5⟩, by simp only; omega⟩
      · simp
        rw [wrap_id (by omega)]
      · simp only
        rw [show n - (c + 1) = q by omega, show c + 1 - 1 = c by omega]; exact h5
    · simp only [Bool.not_eq_false'] at h5
      refine SatD.reg hΓ follows [0, 1, 2, 3, 4, 18, 19, 20, 21, 22] ?_
      simp [d50r37]
      refine ⟨⟨i, c⟩, Le.same (hfr _) ?_, ⟨p1, by simp only; omega, by simp only; omega, p4, .inr ?_⟩, by simp only; omega⟩
      · simp
      · simp only
        rw [hq]; exact h5
  simp at h
  have hij : i = j := by omega
  subst hij
  refine SatD.exit ?_
  simp
  obtain ⟨en, hen⟩ : ∃ en, n - i = en := ⟨_, rfl⟩
  have w5 : IntKind.i64.wrap ((n : Int) - i) = (en : Int) := by rw [wrap_id (by omega)]; omega
  have k1 : ∀ rr ∈ seg D m en, ∀ l ∈ seg D i m, lt rr l = true := by
    intro rr hrr l hl
    obtain ⟨x, x1, x2, x3, x4⟩ := hmem _ _ _ hrr
    obtain ⟨y, y1, y2, y3, y4⟩ := hmem _ _ _ hl
    rw [← x4, ← y4]
    have h5 : lt (g (n - 1 - i)) (g i) = true := by
      rcases p5 with e | e
      · exfalso; omega
      · exact e
    cases h6 : lt (g x) (g y) with
    | true => rfl
    | false =>
      have h7 : lt (g x) (g i) = false := by
        by_cases e : y = i
        · subst e; exact h6
        · exact hw.ntrans _ _ _ h6 (gl i y (by omega) (by omega) y2)
      have h8 : lt (g (n - 1 - i)) (g i) = false := by
        by_cases e : x = n - 1 - i
        · rw [← e]; exact h7
        · exact hw.ntrans _ _ _ (gr x (n - 1 - i) x1 (by omega) (by omega)) h7
      rw [h5] at h8; cases h8
  have k2 : ∀ l ∈ seg D a i, ∀ rr ∈ seg D en b, lt rr l = false := by
    intro l hl rr hrr
    obtain ⟨x, x1, x2, x3, x4⟩ := hmem _ _ _ hrr
    obtain ⟨y, y1, y2, y3, y4⟩ := hmem _ _ _ hl
    rw [← x4, ← y4]
    have h5 : lt (g (n - i)) (g (i - 1)) = false := by
      rcases p4 with e | e
      · exfalso; omega
      · exact e
    have h6 : lt (g x) (g (i - 1)) = false := by
      by_cases e : x = n - i
      · rw [e]; exact h5
      · exact hw.ntrans _ _ _ (gr (n - i) x (by omega) (by omega) x2) h5
    by_cases e : y = i - 1
    · rw [e]; exact h6
    · exact hw.ntrans _ _ _ h6 (gl y (i - 1) y1 (by omega) (by omega))
  have law := symMerge_law hw (D := D) (a := a) (s := i) (m := m) (e := en) (b := b) (mid := mid) (by omega) (by omega) (by omega) (by omega) h3 (by omega) sL sR k1 k2
  simp only at law
  refine SatD.regSeq hΓ follows [0, 1, 2, 3, 4, 18, 20, 24] ?_
  simp [d50r38, w5]
  obtain ⟨D1, hD1⟩ : ∃ D1, rotAt D i m en = D1 := ⟨_, rfl⟩
  obtain ⟨D2, hD2⟩ : ∃ D2, sortAt lt D1 a mid = D2 := ⟨_, rfl⟩
  rw [hD1, hD2] at law
  obtain ⟨⟨a1, a2⟩, ⟨a3, a4⟩, a5, a6, a7, a8, a9⟩ := law
  have lD1 : D1.length = D.length := by rw [← hD1]; exact rotAt_length (by omega) (by omega) (by omega)
  have lD2 : D2.length = D.length := by rw [← hD2, sortAt_length lt D1 (by omega) (by omega), lD1]
  have gD1 : ∀ x ∈ D1, good x := fun x hx => hrows x ((mem_rotAt (D := D) (a := i) (m := m) (b := en) (by omega) (by omega)).1 (by rw [hD1]; exact hx))
  have gD2 : ∀ x ∈ D2, good x := fun x hx => gD1 x ((mem_sortAt (lt := lt) (D := D1) (a := a) (b := mid) (by omega)).1 (by rw [hD2]; exact hx))
  refine SatD.seq ?_
  refine SatD.regToS hΓ follows [(0, .aref r ver), (1, .v (ti a)), (2, .v (ti m)), (3, .v (ti b)), (4, .v (.fn (.func 36) [])), (18, .v (ti mid)), (20, .v (ti i)), (24, .v (ti en)), (185, .v (.bool (decide (i < m ∧ m < en))))] ?_ ?_
  · simp [d50r39]
    repeat' (first | apply And.intro | intro _)
    all_goals first | omega | (simp; omega) | trace_state
  refine SatD.to ⟨DM.look [(0, .aref r ver), (1, .v (ti a)), (3, .v (ti b)), (4, .v (.fn (.func 36) [])), (18, .v (ti mid)), (20, .v (ti i)), (24, .v (ti en))], setO objs r (.arr ver e 5 D1), N + 1000, N, []⟩ ?_ ?_
  · refine SatD.cond rfl (fun c3 => ?_) (fun c3 => ?_)
    · simp only [decide_eq_true_eq] at c3
      refine SatD.regA hΓ follows (rs := d50r40S) (.inr ⟨_, rfl⟩) (by kernel_rfl) [0, 1, 3, 4, 18, 20, 24] ?_
      simp [d50r40S, Γ50, k51, hD1]
      refine ⟨⟨fun x hx => hc.row x (hrows x hx), by omega, by omega, by omega, by omega⟩, ?_⟩
      exact Le.same (hfr _) (by simp)
    · simp only [decide_eq_false_iff_not] at c3
      rw [rotAt_triv (by omega) (by omega) c3] at hD1
      subst hD1
      refine SatD.skip ⟨rfl, ?_⟩
      exact Le.same (hfr _) (by simp)
  refine SatD.seq ?_
  refine SatD.regToS hΓ follows [(0, .aref r ver), (1, .v (ti a)), (3, .v (ti b)), (4, .v (.fn (.func 36) [])), (18, .v (ti mid)), (20, .v (ti i)), (24, .v (ti en)), (199, .v (.bool (decide (a < i ∧ i < mid))))] ?_ ?_
  · simp [d50r41]
    repeat' (first | apply And.intro | intro _)
    all_goals first | omega | (simp; omega) | trace_state
  refine SatD.to ⟨DM.look [(0, .aref r ver), (3, .v (ti b)), (4, .v (.fn (.func 36) [])), (18, .v (ti mid)), (24, .v (ti en))], setO objs r (.arr ver e 5 D2), N + 1000, N, []⟩ ?_ ?_
  · refine SatD.cond rfl (fun c3 => ?_) (fun c3 => ?_)
    · simp only [decide_eq_true_eq] at c3
      refine SatD.regA hΓ follows (rs := d50r42S) (.inr ⟨_, rfl⟩) (by kernel_rfl) [0, 3, 4, 18, 24] ?_
      simp [d50r42S, Γ50, k50, hlt, hD2]
      refine ⟨⟨gD1, by omega, by omega, by omega, by omega, by omega, a1, a2⟩, ?_⟩
      exact Le.same (hfr _) (by simp)
    · simp only [decide_eq_false_iff_not] at c3
      have e1 : D2 = D1 := by
        by_cases e : i = a
        · exact a6 e
        · exact a7 (by omega)
      rw [e1]
      refine SatD.skip ⟨rfl, ?_⟩
      exact Le.same (hfr _) (by simp)
  refine SatD.regToS hΓ follows [(0, .aref r ver), (3, .v (ti b)), (4, .v (.fn (.func 36) [])), (18, .v (ti mid)), (24, .v (ti en)), (213, .v (.bool (decide (mid < en ∧ en < b))))] ?_ ?_
  · simp [d50r43]
    repeat' (first | apply And.intro | intro _)
    all_goals first | omega | (simp; omega) | trace_state
  refine SatD.cond rfl (fun c3 => ?_) (fun c3 => ?_)
  · simp only [decide_eq_true_eq] at c3
    refine SatD.regA hΓ follows (rs := d50r44S) (.inr ⟨_, rfl⟩) (by kernel_rfl) [] ?_
    simp [d50r44S, Γ50, k50, hlt, a5, d50res]
    exact ⟨gD2, by omega, by omega, by omega, by omega, by omega, a3, a4⟩
  · simp only [decide_eq_false_iff_not] at c3
    have e1 : sortAt lt D a b = D2 := by
      rw [← a5]
      by_cases e : en ≤ mid
      · exact a8 e
      · exact a9 (by omega)
    refine SatD.skip ?_
    simp [d50res, e1]

/-- The symmetric merge, by recursion. -/
theorem ok50 {good : List T → Prop} {cmpF : List T → List T → Int} (hc : CmpOk good cmpF 36 5) (hw : SWO (ltF cmpF)) : ∀ F : Nat, EnvOk Try.prog (Γ50 good cmpF F)
  | 0 => by
    refine EnvOk.consS (ok51 hc) ?_
    intro args objs h
    unfold k50 at h
    split at h
    · split at h
      · simp only at h; omega
      · exact h.elim
    · exact h.elim
  | F + 1 => by
    refine EnvOk.consS (ok51 hc) ?_
    intro args objs h
    unfold k50 at h ⊢
    split at h
    · split at h
      · rename_i a m b c caps _ ver' e sz D hob
        obtain ⟨rfl, rfl, rfl, rfl, h1, h2, h3, h4, h5, h6, h7, h8, h9⟩ := h
        have ea : a = (a.toNat : Int) := by omega
        have eb : b = (b.toNat : Int) := by omega
        have en : m = (m.toNat : Int) := by omega
        refine ⟨fun N hN => ?_, fun k hk => setO_none hob hk⟩
        have := t50s hc hw F (ok50 hc hw F) D a.toNat m.toNat b.toNat objs _ _ e hob h1 (by omega) (by omega) (by omega) h6 (by omega) h8 h9 hN
        rw [← ea, ← eb, ← en] at this
        simp only [hob]
        exact this.of rfl rfl
      · exact h.elim
    · exact h.elim
end Go.Proofs
