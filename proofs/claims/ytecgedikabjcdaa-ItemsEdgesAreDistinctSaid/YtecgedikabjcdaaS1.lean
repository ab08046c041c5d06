import Derived.Test.YtecgedikabjcdaaI10
import Derived.Test.YtecgedikabjcdaaDmV
namespace Go.Proofs
open Go.DM Go.DM.Srt
set_option linter.unusedSimpArgs false
set_option linter.unusedVariables false

section
variable (good : List T → Prop) (cmpF : List T → List T → Int)
def cmpSpec : DM.Spec := specP (fun ts => ∃ x y, ts = [.agg x, .agg y] ∧ good x ∧ good y) (fun | [.agg x, .agg y] => ti (cmpF x y) | _ => .bool false) true
/-- The contract of a comparison. -/
structure CmpOk (f : Nat) (n : Nat) : Prop where
  run : ∀ x y, good x → good y → CallsOk Try.prog f [.agg x, .agg y] (ti (cmpF x y))
  row : ∀ x, good x → rowOk n x
abbrev ltF (x y : List T) : Bool := decide (cmpF x y < 0)
def sArr (n : Nat) (objs : Obs) (r ver : Nat) (D : List (List T)) : Prop := ∃ e, objs r = some (.arr ver e n D)

variable {good cmpF}
theorem cmp_env {f n : Nat} (h : CmpOk good cmpF f n) : EnvOk Try.prog (envOf [(f, cmpSpec good cmpF)]) := by
  refine EnvOk.cons EnvOk.nil ?_
  rintro ts ⟨x, y, rfl, h1, h2⟩
  exact ⟨h.run x y h1 h2, fun _ => rfl⟩

theorem rowAt_app {A B : List (List T)} {x : List T} {i : Nat} (h : A.length = i) : DM.rowAt (A ++ (x :: B)) (i : Int) = x := by
  subst h; simp [DM.rowAt]
theorem set_app {A B : List (List T)} {x v : List T} {i : Nat} (h : A.length = i) : (A ++ (x :: B)).set i v = A ++ (v :: B) := by
  subst h; simp
theorem tkm {n : Nat} {x : List T} (h : x.length = n) : (x.map DV.v).take n = x.map DV.v := by subst h; rw [← List.map_take, List.take_length]
theorem dr {n : Nat} {x : List T} (h : x.length = n) : x.drop n = [] := by subst h; simp
theorem tk {n : Nat} {x : List T} (h : x.length = n) : x.take n = x := by subst h; simp

structure Sw where
  (X1 X2 Y1 Y2 : List (List T))
def Sw.D (A M B : List (List T)) (s : Sw) : List (List T) := A ++ (s.Y1 ++ (s.X2 ++ (M ++ (s.X1 ++ (s.Y2 ++ B)))))

set_option maxRecDepth 20000 in
theorem t52 (D : List (List T)) (a b n : Nat) (objs : Obs) (r ver e : Nat) (g : T) (hob : objs r = some (.arr ver e 5 D)) (hrows : ∀ x ∈ D, rowOk 5 x) (h1 : a + n ≤ b) (h2 : b + n ≤ D.length) (h3 : D.length ≤ 140737488355328)
    {N : Nat} (hN : ∀ r, N ≤ r → objs r = none) : CallsS Try.prog 52 [.aref r ver, .v (ti a), .v (ti b), .v (ti n), .v g] objs ⟨True, .v (.tup []), setO objs r (.arr ver e 5 (swapAt D a b n))⟩ := by
  have hΓ : EnvOk Try.prog (envOf []) := EnvOk.nil
  have hfr : ∀ o k, N + 200 ≤ k → setO objs r o k = none := fun o k hk => setO_none hob (hN k (by omega))
  refine c52.okS hN (by simp) (initS_sat ?_)
  rw [setO_self hob]
  simp
  have hD : D = D.take a ++ (seg D a (a + n) ++ (seg D (a + n) b ++ (seg D b (b + n) ++ D.drop (b + n)))) := by
    rw [seg_drop D (by omega), seg_drop D (by omega), seg_drop D (by omega), List.take_append_drop]
  have lA : (D.take a).length = a := by simp; omega
  have lX : (seg D a (a + n)).length = n := by simp; omega
  have lM : (seg D (a + n) b).length = b - (a + n) := by simp; omega
  have lY : (seg D b (b + n)).length = n := by simp; omega
  have hL : D.length = a + n + (b - (a + n)) + n + (D.drop (b + n)).length := by simp; omega
  generalize hA : D.take a = A at *
  generalize hX : seg D a (a + n) = X at *
  generalize hM : seg D (a + n) b = M at *
  generalize hY : seg D b (b + n) = Y at *
  generalize hB : D.drop (b + n) = B at *
  refine SatD.regSeq hΓ follows [0, 1, 2, 3, 10] ?_
  simp [d52r0]
  refine SatD.block ?_ -- 0
  refine SatD.loop (fun y : Sw => ⟨DM.look [(0, .aref r ver), (1, .v (ti a)), (2, .v (ti b)), (3, .v (ti n)), (10, .v (ti y.X1.length))], setO objs r (.arr ver e 5 (y.D A M B)), N + 200, N, []⟩)
    (fun y => X = y.X1 ++ y.X2 ∧ Y = y.Y1 ++ y.Y2 ∧ y.X1.length = y.Y1.length) (fun y => y.X2.length) ⟨[], X, [], Y⟩ ?_ (by simp) (fun y hy => ?_)
  · have : Sw.D A M B ⟨[], X, [], Y⟩ = D := by simp only [Sw.D, List.nil_append]; exact hD.symm
    rw [this]
    exact Le.same (hfr _) (by simp)
  obtain ⟨X1, X2, Y1, Y2⟩ := y
  obtain ⟨e1, e2, e3⟩ := hy
  simp only at e1 e2 e3 ⊢
  have l1 : X1.length + X2.length = n := by rw [← lX, e1]; simp
  have l2 : Y1.length + Y2.length = n := by rw [← lY, e2]; simp
  refine SatD.seq ?_
  refine SatD.regSeq hΓ follows [0, 1, 2, 3, 10, 13] ?_
  simp [d52r1]
  refine SatD.cond rfl (fun h => ?_) (fun h => ?_)
  · simp at h
    match X2, Y2, l1, l2 with
    | [], _, l1, l2 => simp at l1; omega
    | _, [], l1, l2 => simp at l2; omega
    | x :: X2, y :: Y2, l1, l2 =>
    have hx : rowOk 5 x := hrows x (by rw [hD, e1]; simp)
    have hy : rowOk 5 y := hrows y (by rw [hD, e2]; simp)
    simp only [List.length_cons] at l1 l2
    obtain ⟨i, hi⟩ : ∃ i, X1.length = i := ⟨_, rfl⟩
    obtain ⟨p, hp⟩ : ∃ p, a + i = p := ⟨_, rfl⟩
    obtain ⟨q, hq⟩ : ∃ q, b + i = q := ⟨_, rfl⟩
    obtain ⟨Dc, hDc⟩ : ∃ Dc, Sw.D A M B ⟨X1, x :: X2, Y1, y :: Y2⟩ = Dc := ⟨_, rfl⟩
    have hl : Dc.length = D.length := by rw [← hDc, hL]; simp [Sw.D]; omega
    have hw1 : IntKind.i64.wrap ((a : Int) + i) = p := by rw [wrap_id (by omega)]; omega
    have hw2 : IntKind.i64.wrap ((b : Int) + i) = q := by rw [wrap_id (by omega)]; omega
    have g1 : DM.rowAt Dc p = x := by
      rw [← hDc, show Sw.D A M B ⟨X1, x :: X2, Y1, y :: Y2⟩ = (A ++ Y1) ++ (x :: (X2 ++ (M ++ (X1 ++ (y :: (Y2 ++ B)))))) by simp [Sw.D]]
      exact rowAt_app (by simp; omega)
    have g2 : DM.rowAt Dc q = y := by
      rw [← hDc, show Sw.D A M B ⟨X1, x :: X2, Y1, y :: Y2⟩ = (A ++ Y1 ++ x :: X2 ++ M ++ X1) ++ (y :: (Y2 ++ B)) by simp [Sw.D]]
      exact rowAt_app (by simp; omega)
    have g3 : (Dc.set p y).set q x = Sw.D A M B ⟨X1 ++ [x], X2, Y1 ++ [y], Y2⟩ := by
      rw [← hDc, show Sw.D A M B ⟨X1, x :: X2, Y1, y :: Y2⟩ = (A ++ Y1) ++ (x :: (X2 ++ (M ++ (X1 ++ (y :: (Y2 ++ B)))))) by simp [Sw.D]]
      rw [set_app (by simp; omega), show (A ++ Y1) ++ (y :: (X2 ++ (M ++ (X1 ++ (y :: (Y2 ++ B)))))) = (A ++ Y1 ++ y :: X2 ++ M ++ X1) ++ (y :: (Y2 ++ B)) by simp]
      rw [set_app (by simp; omega)]
      simp [Sw.D]
    have g4 : DM.rowAt (Dc.set p y) q = y := by
      rw [← hDc, show Sw.D A M B ⟨X1, x :: X2, Y1, y :: Y2⟩ = (A ++ Y1) ++ (x :: (X2 ++ (M ++ (X1 ++ (y :: (Y2 ++ B)))))) by simp [Sw.D]]
      rw [set_app (by simp; omega), show (A ++ Y1) ++ (y :: (X2 ++ (M ++ (X1 ++ (y :: (Y2 ++ B)))))) = (A ++ Y1 ++ y :: X2 ++ M ++ X1) ++ (y :: (Y2 ++ B)) by simp]
      exact rowAt_app (by simp; omega)
    refine SatD.skip ?_
    simp
    refine SatD.seq ?_
    refine SatD.block ?_ -- 1
    refine SatD.reg hΓ follows [0, 1, 2, 3, 10] ?_
    rw [hDc]
    simp [d52r2, hi, hw1, hw2, g1, g2, g4, hl, hx.1, hy.1, pureCells_map hx.2, pureCells_map hy.2, tk hx.1, tk hy.1, tkm hx.1, tkm hy.1, dr hx.1, dr hy.1]
    repeat refine ⟨by omega, ?_⟩
    rw [g3]
    refine SatD.reg hΓ follows [0, 1, 2, 3, 10] ?_
    simp [d52r3]
    refine ⟨⟨X1 ++ [x], X2, Y1 ++ [y], Y2⟩, ?_, ?_, ?_⟩
    · refine Le.same (hfr _) ?_
      simp
      rw [wrap_id (by omega)]; omega
    · simp [e1, e2, ← e3, hi]
    · simp
  · simp at h
    refine SatD.exit ?_
    have hX2 : X2 = [] := List.eq_nil_of_length_eq_zero (by omega)
    have hY2 : Y2 = [] := List.eq_nil_of_length_eq_zero (by omega)
    subst hX2 hY2
    simp at e1 e2
    subst e1 e2
    have : swapAt D a b n = Sw.D A M B ⟨X, [], Y, []⟩ := by
      rw [hD, swapAt_app A X M Y B lA lX (by omega) lY]
      simp [Sw.D]
    simp [d52res, this]
end
end Go.Proofs
