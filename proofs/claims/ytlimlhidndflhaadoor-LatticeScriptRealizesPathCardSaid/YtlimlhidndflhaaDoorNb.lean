/- The reference's Build. Conditions: none. -/
import Derived.Test.YtlimlhidndflhaaDoorNa
namespace Go.Proofs
open Go.DM
set_option linter.unusedSimpArgs false
set_option linter.unusedVariables false

@[simp] theorem decArc_enc' (a b c d : Int) (o : List (Int × Int)) : decArc [ti a, ti b, ti c, ti d, .sl (opsT o)] = ⟨a, b, c, d, o⟩ := decArc_enc ⟨a, b, c, d, o⟩
@[simp] theorem decArc_nil' (a b c d : Int) : decArc [ti a, ti b, ti c, ti d, .sl []] = ⟨a, b, c, d, []⟩ := decArc_enc ⟨a, b, c, d, []⟩
/-- One part for each number from i on. -/
def ft {α : Type} (f : Nat → List α) (i m : Nat) : List α := (List.range (m - i)).flatMap fun e => f (i + e)
theorem ft_succ {α : Type} (f : Nat → List α) {i m : Nat} (h : i ≤ m) : ft f i (m + 1) = ft f i m ++ f m := by
  unfold ft
  rw [show m + 1 - i = (m - i) + 1 by omega, List.range_succ, List.flatMap_append]
  simp [show i + (m - i) = m by omega]
theorem ft_nil {α : Type} (f : Nat → List α) (i : Nat) : ft f i i = [] := by simp [ft]

def readAt (x : Input) (m t : Nat) : Int := (x.columns.getD m default).read.getD t default
def rA (x : Input) (i m t : Nat) : List Arc := if m < x.columns.length ∧ 0 ≤ readAt x m t then [⟨2 * i, 2 * m + 2, t, satA (delC x i m) (readAt x m t), dels (m - i) ++ [(1, (t : Int))]⟩] else []
def rS (x : Input) (i m : Nat) : List Arc := if swapOk x m then [⟨2 * i, 2 * m + 1, (x.columns.getD (m + 1) default).kind, satA (delC x i m) x.swap, dels (m - i) ++ [(4, 0)]⟩] else []
def rM (x : Input) (i m : Nat) : List Arc := ft (rA x i m) 0 x.insert.length ++ rS x i m
def rT (x : Input) (i : Nat) : List Arc := if swapOk x i then [⟨2 * i + 1, 2 * i + 4, (x.columns.getD i default).kind, 0, []⟩] else []
def rI (x : Input) (i : Nat) : List Arc := ft (rM x i) i (x.columns.length + 1) ++ rT x i
def iT (x : Input) (i m t : Nat) : List Arc := [⟨2 * i, 2 * m, t, satA (delC x i m) (x.insert.getD t default), dels (m - i) ++ [(3, (t : Int))]⟩]
def iM (x : Input) (i m : Nat) : List Arc := ft (iT x i m) 0 x.insert.length
def iI (x : Input) (i : Nat) : List Arc := ft (iM x i) i (x.columns.length + 1)
def putAll (l cs : List Arc) : List Arc := cs.foldl putL l
theorem putAll_append (l cs ds : List Arc) : putAll l (cs ++ ds) = putAll (putAll l cs) ds := by simp [putAll]
def refArcs (x : Input) : List Arc := putAll (putAll [] (ft (rI x) 0 (x.columns.length + 1))) (ft (iI x) 0 (x.columns.length + 1))
def refFin (x : Input) (k : Nat) : List Int := (List.range (2 * x.columns.length + 1)).map fun s => if s < k then (if s % 2 = 0 then delC x (s / 2) x.columns.length else 1099511627776) else 0
def refBuildL (x : Input) : Lattice := ⟨2 * x.columns.length + 1, refArcs x, refFin x (2 * x.columns.length + 1)⟩

theorem putStep_len2 (a : Arc) (p : Bool × List Arc) (b : Arc) : (putStep a p b).2.length + p.1.toNat ≤ p.2.length + 1 + (putStep a p b).1.toNat := by
  unfold putStep
  cases hp : p.1 with
  | true => simp
  | false =>
    simp only [true_and, Bool.toNat_false]
    split
    · simp
    · split <;> simp
theorem putFold_len (a : Arc) (l : List Arc) : (putFold a l).2.length ≤ l.length + (putFold a l).1.toNat := by
  have key : ∀ (l : List Arc) (p : Bool × List Arc), (l.foldl (putStep a) p).2.length + p.1.toNat ≤ p.2.length + l.length + (l.foldl (putStep a) p).1.toNat := by
    intro l
    induction l with
    | nil => intro p; simp
    | cons b l ih =>
      intro p
      simp only [List.foldl_cons, List.length_cons]
      have h := ih (putStep a p b)
      have hs := putStep_len2 a p b
      omega
  have h := key l (false, [])
  simpa [putFold] using h
theorem putL_len (l : List Arc) (a : Arc) : (putL l a).length ≤ l.length + 1 := by
  have h := putFold_len a l
  unfold putL
  split
  · omega
  · split
    · rename_i hd; rw [hd] at h; simpa using h
    · rename_i hd
      simp only [Bool.not_eq_true] at hd
      rw [hd] at h
      simp at h ⊢
      omega
theorem putAll_len (cs : List Arc) : ∀ l : List Arc, (putAll l cs).length ≤ l.length + cs.length := by
  induction cs with
  | nil => intro l; simp [putAll]
  | cons c cs ih =>
    intro l
    have h1 := ih (putL l c)
    have h2 := putL_len l c
    have e : putAll l (c :: cs) = putAll (putL l c) cs := rfl
    rw [e]
    simp only [List.length_cons]
    omega
theorem rA_len (x : Input) (i m t : Nat) : (rA x i m t).length ≤ 1 := by unfold rA; split <;> simp
theorem rS_len (x : Input) (i m : Nat) : (rS x i m).length ≤ 1 := by unfold rS; split <;> simp
theorem rT_len (x : Input) (i : Nat) : (rT x i).length ≤ 1 := by unfold rT; split <;> simp
theorem ft_len {α : Type} {f : Nat → List α} {B : Nat} (h : ∀ k, (f k).length ≤ B) (i m : Nat) : (ft f i m).length ≤ (m - i) * B := by
  unfold ft
  have : ∀ k, ((List.range k).flatMap fun e => f (i + e)).length ≤ k * B := by
    intro k
    induction k with
    | zero => simp
    | succ k ih =>
      rw [List.range_succ, List.flatMap_append, List.length_append, Nat.succ_mul]
      have := h (i + k)
      simp only [List.flatMap_cons, List.flatMap_nil, List.append_nil]
      omega
  exact this _
theorem rM_len (x : Input) (i m : Nat) (h : x.insert.length ≤ 100) : (rM x i m).length ≤ 101 := by
  unfold rM
  have h1 := ft_len (rA_len x i m) 0 x.insert.length
  have h2 := rS_len x i m
  rw [List.length_append]
  omega
theorem rI_len (x : Input) (i : Nat) (h : x.insert.length ≤ 100) (hn : x.columns.length ≤ 60) : (rI x i).length ≤ 7000 := by
  unfold rI
  have h1 := ft_len (f := rM x i) (B := 101) (fun k => rM_len x i k h) i (x.columns.length + 1)
  have h2 := rT_len x i
  rw [List.length_append]
  omega
theorem iM_len (x : Input) (i m : Nat) (h : x.insert.length ≤ 100) : (iM x i m).length ≤ 100 := by
  unfold iM
  have h1 := ft_len (f := iT x i m) (B := 1) (fun k => by simp [iT]) 0 x.insert.length
  omega
theorem iI_len (x : Input) (i : Nat) (h : x.insert.length ≤ 100) (hn : x.columns.length ≤ 60) : (iI x i).length ≤ 7000 := by
  unfold iI
  have h1 := ft_len (f := iM x i) (B := 100) (fun k => iM_len x i k h) i (x.columns.length + 1)
  omega

abbrev s34 (x : Input) : DM.Spec := specP (fun ts => ∃ i m : Nat, ts = [x.enc, ti i, ti m] ∧ i ≤ m ∧ m ≤ x.columns.length) (fun | [_, .int _ i, .int _ m] => ti (delC x i.toNat m.toNat) | _ => .bool false) true
abbrev s38 (x : Input) : DM.Spec := specP (fun ts => ∃ m : Nat, ts = [x.enc, ti m] ∧ m ≤ 1000000) (fun | [_, .int _ m] => .bool (swapOk x m.toNat) | _ => .bool false) true
abbrev s37 : DM.Spec := specP (fun ts => ∃ (n : Nat) (a b : Int), ts = [ti n, .agg [ti a, ti b]] ∧ n ≤ 1000000) (fun | [.int _ n, .agg [.int _ a, .int _ b]] => .sl (opsT (dels n.toNat ++ [(a, b)])) | _ => .bool false) false
abbrev s35 : DM.Spec := specP (fun ts => ∃ (l : List Arc) (a : Arc), ts = [.sl (arcsT l), .agg a.enc] ∧ l.length ≤ 1000000000) (fun | [.sl l, .agg a] => .sl (arcsT (putL (decArcs l) (decArc a))) | _ => .bool false) false
abbrev Γ14 (x : Input) : Env := envOf [(26, s34 x), (30, s38 x), (29, s37), (27, s35), (28, spec36)]
theorem ok14 (x : Input) (hd : delOk x.columns) : EnvOk Tryd.prog (Γ14 x) := by
  refine EnvOk.cons (EnvOk.cons (EnvOk.cons (EnvOk.cons ok36 ?_) ?_) ?_) ?_
  · rintro ts ⟨l, a, rfl, h⟩
    exact ⟨by simpa using t35 l a h, fun h => by cases h⟩
  · rintro ts ⟨n, a, b, rfl, h⟩
    exact ⟨by simpa using t37 n a b h, fun h => by cases h⟩
  · rintro ts ⟨m, rfl, h⟩
    exact ⟨by simpa using t38 x m h hd.1, fun _ => rfl⟩
  · rintro ts ⟨i, m, rfl, h1, h2⟩
    exact ⟨by simpa using t34 x i m h1 h2 hd, fun _ => rfl⟩
end Go.Proofs
/- The reference's Build, the walk. Conditions: none. -/
namespace Go.Proofs
open Go.DM
set_option linter.unusedSimpArgs false
set_option linter.unusedVariables false

set_option maxRecDepth 20000 in
set_option maxHeartbeats 16000000 in
theorem t14 (x : Input) (hx : inOk x) (hn60 : x.columns.length ≤ 60) (ht : x.insert.length ≤ 100) (hread : ∀ c ∈ x.columns, c.read.length = x.insert.length) : CallsOk Tryd.prog 8 [x.enc] (refBuildL x).enc := by
  have hΓ := ok14 x hx.1
  have hxe : T.agg [.sl (colsT x.columns), .sl (intsT x.insert), ti x.swap] = x.enc := rfl
  obtain ⟨hd, hcs, hins, hinp, hsw0, hsw⟩ := hx
  obtain ⟨n, hn⟩ : ∃ n, x.columns.length = n := ⟨_, rfl⟩
  obtain ⟨tm, htm⟩ : ∃ n, x.insert.length = n := ⟨_, rfl⟩
  have hdb := delC_bound hd
  have lenA : ∀ y, y ≤ n + 1 → (putAll [] (ft (rI x) 0 y)).length ≤ 430000 := by
    intro y hy
    have h1 := putAll_len (ft (rI x) 0 y) []
    have h2 := ft_len (f := rI x) (B := 7000) (fun k => rI_len x k ht hn60) 0 y
    simp at h1
    omega
  obtain ⟨R, hR⟩ : ∃ R, (refBuildL x).enc = R := ⟨_, rfl⟩
  refine c14.ok (by simp) (initSt_sat ?_)
  rw [hR]
  simp only [refBuildL, refArcs] at hR
  simp [Input.enc]
  refine SatD.regSeq hΓ follows [1, 2] ?_
  simp [d14r0]
  refine SatD.le (Le.keep (o := [(1003, .box [.v (ti 0), .nil0, .nil0])]) (l := [(1, .v (.box [.sl (colsT x.columns), .sl (intsT x.insert), ti x.swap])), (2, .ptr 1003 0)]) (nxt' := 1500) ?_ ?_ ?_ ?_) ?_
  · simp
  · simp
  · simp
  · simp
  refine SatD.regSeq hΓ follows [1, 2, 3] ?_
  simp [d14r1, hn]
  refine SatD.regSeq hΓ follows [1, 2, 3, 4] ?_
  simp [d14r2]
  refine SatD.seq ?_
  refine SatD.le (Le.keep (o := [(1003, .box [.v (ti 0), .nil0, .nil0])]) (l := [(1, .v (.box [.sl (colsT x.columns), .sl (intsT x.insert), ti x.swap])), (2, .ptr 1003 0), (3, .v (ti n)), (4, .v (.sl (arcsT [])))]) (nxt' := 2500) ?_ ?_ ?_ ?_) ?_
  · simp
  · simp
  · simp
  · simp [arcsT]
  refine SatD.regSeq hΓ follows [1, 2, 3, 4, 5] ?_
  simp [d14r3]
  obtain ⟨al1, hal1⟩ : ∃ l, putAll [] (ft (rI x) 0 (n + 1)) = l := ⟨_, rfl⟩
  have lal1 : al1.length ≤ 430000 := by rw [← hal1]; exact lenA _ (by omega)
  refine SatD.to ⟨DM.look [(1, .v (.box [.sl (colsT x.columns), .sl (intsT x.insert), ti x.swap])), (2, .ptr 1003 0), (3, .v (ti n)), (4, .v (.sl (arcsT al1)))], obs [(1003, .box [.v (ti 0), .nil0, .nil0])], 100000, 1000, []⟩ ?_ ?_
  · refine SatD.block ?_
    refine SatD.loop (fun y : Nat => ⟨DM.look [(1, .v (.box [.sl (colsT x.columns), .sl (intsT x.insert), ti x.swap])), (2, .ptr 1003 0), (3, .v (ti n)), (4, .v (.sl (arcsT (putAll [] (ft (rI x) 0 y))))), (5, .v (ti y))], obs [(1003, .box [.v (ti 0), .nil0, .nil0])], 10000, 1000, []⟩)
      (fun y => y ≤ n + 1) (fun y => n + 1 - y) 0 (Le.keep ?_ ?_ ?_ ?_) (by simp) (fun y hy => ?_)
    · simp
    · simp
    · simp
    · simp [ft_nil, putAll]
    have lal := lenA y hy
    have hsuccI := ft_succ (rI x) (Nat.zero_le y)
    obtain ⟨al, hal⟩ : ∃ l, putAll [] (ft (rI x) 0 y) = l := ⟨_, rfl⟩
    have hnext : putAll [] (ft (rI x) 0 (y + 1)) = putAll al (rI x y) := by rw [hsuccI, putAll_append, hal]
    rw [hal] at lal ⊢
    refine SatD.seq ?_
    refine SatD.regSeq hΓ follows [1, 2, 3, 4, 5, 20] ?_
    simp [d14r4]
    refine SatD.cond rfl (fun hcc => ?_) (fun hcc => ?_)
    · simp at hcc
      have w2y : IntKind.i64.wrap (2 * (y : Int)) = 2 * y := wrap_id (by omega)
      refine SatD.skip ?_
      simp
      refine SatD.seq ?_
      refine SatD.to ⟨DM.look [(1, .v (.box [.sl (colsT x.columns), .sl (intsT x.insert), ti x.swap])), (2, .ptr 1003 0), (3, .v (ti n)), (4, .v (.sl (arcsT (putAll al (rI x y))))), (5, .v (ti y))], obs [(1003, .box [.v (ti 0), .nil0, .nil0])], 50000, 1000, []⟩ ?_ ?_
      · refine SatD.block ?_
        refine SatD.seq ?_
        refine SatD.regSeq hΓ follows [1, 2, 3, 4, 5, 6] ?_
        simp [d14r5]
        obtain ⟨al2, hal2⟩ : ∃ l, putAll al (ft (rM x y) y (n + 1)) = l := ⟨_, rfl⟩
        have lB : ∀ m, m ≤ n + 1 → (putAll al (ft (rM x y) y m)).length ≤ 440000 := by
          intro m hm
          have h1 := putAll_len (ft (rM x y) y m) al
          have h2 := ft_len (f := rM x y) (B := 101) (fun k => rM_len x y k ht) y m
          omega
        have lal2 : al2.length ≤ 440000 := by rw [← hal2]; exact lB _ (by omega)
        have hfin : putAll al (rI x y) = putAll al2 (rT x y) := by rw [← hal2, ← putAll_append]; unfold rI; rw [hn]
        refine SatD.to ⟨DM.look [(1, .v (.box [.sl (colsT x.columns), .sl (intsT x.insert), ti x.swap])), (2, .ptr 1003 0), (3, .v (ti n)), (4, .v (.sl (arcsT al2))), (5, .v (ti y))], obs [(1003, .box [.v (ti 0), .nil0, .nil0])], 40000, 1000, []⟩ ?_ ?_
        · refine SatD.block ?_
          refine SatD.loop (fun m : Nat => ⟨DM.look [(1, .v (.box [.sl (colsT x.columns), .sl (intsT x.insert), ti x.swap])), (2, .ptr 1003 0), (3, .v (ti n)), (4, .v (.sl (arcsT (putAll al (ft (rM x y) y m))))), (5, .v (ti y)), (6, .v (ti m))], obs [(1003, .box [.v (ti 0), .nil0, .nil0])], 20000, 1000, []⟩)
            (fun m => y ≤ m ∧ m ≤ n + 1) (fun m => n + 1 - m) y (Le.keep ?_ ?_ ?_ ?_) (by omega) (fun m hm => ?_)
          · simp
          · simp
          · simp
          · simp [ft_nil, putAll]
          obtain ⟨hm1, hm2⟩ := hm
          have lalm := lB m hm2
          have hsuccM := ft_succ (rM x y) hm1
          obtain ⟨alm, halm⟩ : ∃ l, putAll al (ft (rM x y) y m) = l := ⟨_, rfl⟩
          have hnextM : putAll al (ft (rM x y) y (m + 1)) = putAll alm (rM x y m) := by rw [hsuccM, putAll_append, halm]
          rw [halm] at lalm ⊢
          refine SatD.seq ?_
          refine SatD.regSeq hΓ follows [1, 2, 3, 4, 5, 6, 26] ?_
          simp [d14r6]
          refine SatD.cond rfl (fun hcm => ?_) (fun hcm => ?_)
          · simp at hcm
            have w2m : IntKind.i64.wrap (2 * (m : Int)) = 2 * m := wrap_id (by omega)
            have w2m1 : IntKind.i64.wrap (2 * (m : Int) + 1) = 2 * m + 1 := wrap_id (by omega)
            have w2m2 : IntKind.i64.wrap (2 * (m : Int) + 2) = 2 * m + 2 := wrap_id (by omega)
            have wm1 : IntKind.i64.wrap ((m : Int) + 1) = m + 1 := wrap_id (by omega)
            have wmy : IntKind.i64.wrap ((m : Int) - y) = ((m - y : Nat) : Int) := by rw [wrap_id (by omega)]; omega
            obtain ⟨d, hdd⟩ : ∃ d, delC x y m = d := ⟨_, rfl⟩
            have hdb' := hdb y m
            rw [hdd] at hdb'
            refine SatD.skip ?_
            simp
            refine SatD.seq ?_
            refine SatD.to ⟨DM.look [(1, .v (.box [.sl (colsT x.columns), .sl (intsT x.insert), ti x.swap])), (2, .ptr 1003 0), (3, .v (ti n)), (4, .v (.sl (arcsT (putAll alm (rM x y m))))), (5, .v (ti y)), (6, .v (ti m))], obs [(1003, .box [.v (ti 0), .nil0, .nil0])], 40000, 1000, []⟩ ?_ ?_
            · refine SatD.block ?_
              refine SatD.regSeq hΓ follows [1, 2, 3, 4, 5, 6, 7] ?_
              simp [d14r7, hxe, hdd]
              refine ⟨⟨y, m, ⟨rfl, rfl⟩, hm1, by omega⟩, ?_⟩
              refine SatD.seq ?_
              refine SatD.regSeq hΓ follows [1, 2, 3, 4, 5, 6, 7, 8] ?_
              simp [d14r8]
              obtain ⟨al3, hal3⟩ : ∃ l, putAll alm (ft (rA x y m) 0 tm) = l := ⟨_, rfl⟩
              have lC : ∀ t, t ≤ tm → (putAll alm (ft (rA x y m) 0 t)).length ≤ 450000 := by
                intro t htt
                have h1 := putAll_len (ft (rA x y m) 0 t) alm
                have h2 := ft_len (f := rA x y m) (B := 1) (fun k => rA_len x y m k) 0 t
                omega
              have lal3 : al3.length ≤ 450000 := by rw [← hal3]; exact lC _ (by omega)
              have hfin3 : putAll alm (rM x y m) = putAll al3 (rS x y m) := by rw [← hal3, ← putAll_append]; unfold rM; rw [htm]
              refine SatD.to ⟨DM.look [(1, .v (.box [.sl (colsT x.columns), .sl (intsT x.insert), ti x.swap])), (2, .ptr 1003 0), (3, .v (ti n)), (4, .v (.sl (arcsT al3))), (5, .v (ti y)), (6, .v (ti m)), (7, .v (ti d))], obs [(1003, .box [.v (ti 0), .nil0, .nil0])], 40000, 1000, []⟩ ?_ ?_
              · refine SatD.block ?_
                refine SatD.loop (fun t : Nat => ⟨DM.look [(1, .v (.box [.sl (colsT x.columns), .sl (intsT x.insert), ti x.swap])), (2, .ptr 1003 0), (3, .v (ti n)), (4, .v (.sl (arcsT (putAll alm (ft (rA x y m) 0 t))))), (5, .v (ti y)), (6, .v (ti m)), (7, .v (ti d)), (8, .v (ti t))], obs [(1003, .box [.v (ti 0), .nil0, .nil0])], 30000, 1000, []⟩)
                  (fun t => t ≤ tm) (fun t => tm - t) 0 (Le.keep ?_ ?_ ?_ ?_) (by simp) (fun t htt => ?_)
                · simp
                · simp
                · simp
                · simp [ft_nil, putAll]
                have lalt := lC t htt
                have hsuccT := ft_succ (rA x y m) (Nat.zero_le t)
                obtain ⟨alt, halt⟩ : ∃ l, putAll alm (ft (rA x y m) 0 t) = l := ⟨_, rfl⟩
                have hnextT : putAll alm (ft (rA x y m) 0 (t + 1)) = putAll alt (rA x y m t) := by rw [hsuccT, putAll_append, halt]
                rw [halt] at lalt ⊢
                refine SatD.seq ?_
                refine SatD.regSeq hΓ follows [1, 2, 3, 4, 5, 6, 7, 8, 37] ?_
                simp [d14r9, htm]
                refine SatD.cond rfl (fun hct => ?_) (fun hct => ?_)
                · simp at hct
                  refine SatD.skip ?_
                  simp
                  refine SatD.seq ?_
                  obtain ⟨q, hq⟩ : ∃ q, rA x y m t = q := ⟨_, rfl⟩
                  rw [hq] at hnextT
                  unfold rA at hq
                  rw [hdd, hn] at hq
                  refine SatD.to ⟨DM.look [(1, .v (.box [.sl (colsT x.columns), .sl (intsT x.insert), ti x.swap])), (2, .ptr 1003 0), (3, .v (ti n)), (4, .v (.sl (arcsT (putAll alt q)))), (5, .v (ti y)), (6, .v (ti m)), (7, .v (ti d)), (8, .v (ti t))], obs [(1003, .box [.v (ti 0), .nil0, .nil0])], 40000, 1000, []⟩ ?_ ?_
                  · refine SatD.block ?_
                    obtain ⟨c, hc⟩ : ∃ c : Bool, decide (m < n ∧ 0 ≤ readAt x m t) = c := ⟨_, rfl⟩
                    by_cases hmn : m < n
                    · have hmc : m < x.columns.length := by omega
                      have hrc := rowAt_cols hmc
                      obtain ⟨cl, hcl⟩ : ∃ c, x.columns.getD m default = c := ⟨_, rfl⟩
                      have hclm : cl ∈ x.columns := by rw [← hcl]; simp [List.getD, hmc]
                      have hrl := hread cl hclm
                      have hcok := hcs cl hclm
                      rw [hcl] at hrc
                      have htr : t < cl.read.length := by omega
                      have hrr := rowAt_ints htr
                      have hra : readAt x m t = cl.read.getD t default := by unfold readAt; rw [hcl]
                      rw [hra] at hq hc
                      obtain ⟨u, hu⟩ : ∃ u, cl.read.getD t default = u := ⟨_, rfl⟩
                      rw [hu] at hrr hq hc
                      refine SatD.regToS hΓ follows [(1, .v (.box [.sl (colsT x.columns), .sl (intsT x.insert), ti x.swap])), (2, .ptr 1003 0), (3, .v (ti n)), (4, .v (.sl (arcsT alt))), (5, .v (ti y)), (6, .v (ti m)), (7, .v (ti d)), (8, .v (ti t)), (54, .v (.bool c))] ?_ ?_
                      · by_cases q2 : 0 ≤ u
                        · have hc' : c = true := by rw [← hc]; simp [hmn, q2]
                          simp [d14r10, hmn, hn, hrc, Column.enc, htr, hrr, q2, hc']
                        · have hc' : c = false := by rw [← hc]; simp [q2]
                          simp [d14r10, hmn, hn, hrc, Column.enc, htr, hrr, q2, hc']
                      refine SatD.cond rfl (fun h => ?_) (fun h => ?_)
                      · rw [h] at hc
                        simp only [decide_eq_true_eq] at hc
                        rw [if_pos hc] at hq
                        have hub : u ≤ 1099511627776 := hcok.2 u (by rw [← hu]; simp [List.getD, htr])
                        subst hq
                        refine SatD.reg hΓ follows [1, 2, 3, 4, 5, 6, 7, 8] ?_
                        simp [d14r11, w2y, w2m, w2m2, wmy, hmn, hn, hrc, Column.enc, htr, hrr]
                        refine ⟨⟨d, u, ⟨rfl, rfl⟩, by omega, by omega⟩, ⟨m - y, rfl, by omega⟩, ⟨alt, ⟨rfl, ⟨⟨2 * y, 2 * m + 2, t, satA d u, dels (m - y) ++ [(1, (t : Int))]⟩, rfl⟩⟩, by omega⟩, Le.keep ?_ ?_ ?_ ?_⟩
                        · simp
                        · simp
                        · simp
                        · simp [putAll]
                      · rw [h] at hc
                        simp only [decide_eq_false_iff_not] at hc
                        rw [if_neg hc] at hq
                        subst hq
                        refine SatD.skip ⟨rfl, Le.keep ?_ ?_ ?_ ?_⟩
                        · simp
                        · simp
                        · simp
                        · simp [putAll]
                    · have hc' : c = false := by rw [← hc]; simp [hmn]
                      rw [if_neg (fun h => hmn h.1)] at hq
                      subst hq
                      refine SatD.regToS hΓ follows [(1, .v (.box [.sl (colsT x.columns), .sl (intsT x.insert), ti x.swap])), (2, .ptr 1003 0), (3, .v (ti n)), (4, .v (.sl (arcsT alt))), (5, .v (ti y)), (6, .v (ti m)), (7, .v (ti d)), (8, .v (ti t)), (54, .v (.bool false))] ?_ ?_
                      · simp [d14r10, hmn]
                      refine SatD.cond rfl (fun h => by cases h) (fun _ => ?_)
                      refine SatD.skip ⟨rfl, Le.keep ?_ ?_ ?_ ?_⟩
                      · simp
                      · simp
                      · simp
                      · simp [putAll]
                  · refine SatD.reg hΓ follows [1, 2, 3, 4, 5, 6, 7, 8] ?_
                    simp [d14r12]
                    rw [wrap_id (by omega)]
                    refine ⟨t + 1, Le.keep ?_ ?_ ?_ ?_, by omega, by omega⟩
                    · simp
                    · simp
                    · simp
                    · simp [hnextT]
                · simp at hct
                  have : t = tm := by omega
                  subst this
                  refine SatD.exit ⟨rfl, Le.keep ?_ ?_ ?_ ?_⟩
                  · simp
                  · simp
                  · simp
                  · simp [← hal3, halt]
              simp
              refine SatD.regSeq hΓ follows [1, 2, 3, 4, 5, 6, 7, 83] ?_
              simp [d14r13, hxe]
              refine ⟨⟨m, rfl, by omega⟩, ?_⟩
              rw [hfin3]
              obtain ⟨q, hq⟩ : ∃ q, rS x y m = q := ⟨_, rfl⟩
              rw [hq]
              unfold rS at hq
              rw [hdd] at hq
              refine SatD.cond rfl (fun h => ?_) (fun h => ?_)
              · rw [if_pos h] at hq
                have hsw2 : m + 1 < x.columns.length := by simp [swapOk] at h; exact h.1
                have hrc : DM.rowAt (colsT x.columns) ((m : Int) + 1) = _ := rowAt_cols hsw2
                obtain ⟨cl, hcl⟩ : ∃ c, x.columns.getD (m + 1) default = c := ⟨_, rfl⟩
                rw [hcl] at hrc hq
                have hlt1 : ((m : Int) + 1 < n) = True := by simp; omega
                have hlt2 : (0 ≤ (m : Int) + 1) = True := by simp; omega
                subst hq
                refine SatD.reg hΓ follows [1, 2, 3, 4, 5, 6] ?_
                simp [d14r14, w2y, w2m, w2m1, wm1, wmy, hn, hrc, hlt1, hlt2, Column.enc]
                refine ⟨⟨d, x.swap, ⟨rfl, rfl⟩, by omega, by omega⟩, ⟨m - y, rfl, by omega⟩, ⟨al3, ⟨rfl, ⟨⟨2 * y, 2 * m + 1, cl.kind, satA d x.swap, dels (m - y) ++ [(4, 0)]⟩, rfl⟩⟩, by omega⟩, Le.keep ?_ ?_ ?_ ?_⟩
                · simp
                · simp
                · simp
                · simp [putAll]
              · rw [if_neg (by simp [h])] at hq
                subst hq
                refine SatD.skip ⟨rfl, Le.keep ?_ ?_ ?_ ?_⟩
                · simp
                · simp
                · simp
                · simp [putAll]
            · refine SatD.reg hΓ follows [1, 2, 3, 4, 5, 6] ?_
              simp [d14r15]
              rw [wrap_id (by omega)]
              refine ⟨m + 1, Le.keep ?_ ?_ ?_ ?_, by omega, by omega⟩
              · simp
              · simp
              · simp
              · simp [hnextM]
          · simp at hcm
            have : m = n + 1 := by omega
            subst this
            refine SatD.exit ⟨rfl, Le.keep ?_ ?_ ?_ ?_⟩
            · simp
            · simp
            · simp
            · simp [← hal2, halm]
        simp
        refine SatD.regSeq hΓ follows [1, 2, 3, 4, 5, 110] ?_
        simp [d14r16, hxe]
        refine ⟨⟨y, rfl, by omega⟩, ?_⟩
        rw [hfin]
        obtain ⟨q, hq⟩ : ∃ q, rT x y = q := ⟨_, rfl⟩
        rw [hq]
        unfold rT at hq
        refine SatD.cond rfl (fun h => ?_) (fun h => ?_)
        · rw [if_pos h] at hq
          have hsw2 : y < x.columns.length := by simp [swapOk] at h; omega
          have hrc := rowAt_cols hsw2
          obtain ⟨cl, hcl⟩ : ∃ c, x.columns.getD y default = c := ⟨_, rfl⟩
          rw [hcl] at hrc hq
          have w2y1 : IntKind.i64.wrap (2 * (y : Int) + 1) = 2 * y + 1 := wrap_id (by omega)
          have w2y4 : IntKind.i64.wrap (2 * (y : Int) + 4) = 2 * y + 4 := wrap_id (by omega)
          have hyn : y < n := by omega
          subst hq
          refine SatD.reg hΓ follows [1, 2, 3, 4, 5] ?_
          simp [d14r17, w2y, w2y1, w2y4, hn, hrc, hyn, Column.enc]
          refine ⟨⟨al2, ⟨rfl, ⟨⟨2 * y + 1, 2 * y + 4, cl.kind, 0, []⟩, rfl⟩⟩, by omega⟩, Le.keep ?_ ?_ ?_ ?_⟩
          · simp
          · simp
          · simp
          · simp [putAll]
        · rw [if_neg (by simp [h])] at hq
          subst hq
          refine SatD.skip ⟨rfl, Le.keep ?_ ?_ ?_ ?_⟩
          · simp
          · simp
          · simp
          · simp [putAll]
      · refine SatD.reg hΓ follows [1, 2, 3, 4, 5] ?_
        simp [d14r18]
        rw [wrap_id (by omega)]
        refine ⟨y + 1, Le.keep ?_ ?_ ?_ ?_, by omega, by omega⟩
        · simp
        · simp
        · simp
        · simp [hnext]
    · simp at hcc
      have : y = n + 1 := by omega
      subst this
      refine SatD.exit ⟨rfl, Le.keep ?_ ?_ ?_ ?_⟩
      · simp
      · simp
      · simp
      · simp [← hal1, hal]
  simp
  refine SatD.seq ?_
  refine SatD.regSeq hΓ follows [1, 2, 3, 4, 9] ?_
  simp [d14r19]
  obtain ⟨al2, hal2⟩ : ∃ l, putAll al1 (ft (iI x) 0 (n + 1)) = l := ⟨_, rfl⟩
  have lenB : ∀ y, y ≤ n + 1 → (putAll al1 (ft (iI x) 0 y)).length ≤ 900000 := by
    intro y hy
    have h1 := putAll_len (ft (iI x) 0 y) al1
    have h2 := ft_len (f := iI x) (B := 7000) (fun k => iI_len x k ht hn60) 0 y
    omega
  refine SatD.to ⟨DM.look [(1, .v (.box [.sl (colsT x.columns), .sl (intsT x.insert), ti x.swap])), (2, .ptr 1003 0), (3, .v (ti n)), (4, .v (.sl (arcsT al2)))], obs [(1003, .box [.v (ti 0), .nil0, .nil0])], 100000, 1000, []⟩ ?_ ?_
  · refine SatD.block ?_
    refine SatD.loop (fun y : Nat => ⟨DM.look [(1, .v (.box [.sl (colsT x.columns), .sl (intsT x.insert), ti x.swap])), (2, .ptr 1003 0), (3, .v (ti n)), (4, .v (.sl (arcsT (putAll al1 (ft (iI x) 0 y))))), (9, .v (ti y))], obs [(1003, .box [.v (ti 0), .nil0, .nil0])], 110000, 1000, []⟩)
      (fun y => y ≤ n + 1) (fun y => n + 1 - y) 0 (Le.keep ?_ ?_ ?_ ?_) (by simp) (fun y hy => ?_)
    · simp
    · simp
    · simp
    · simp [ft_nil, putAll]
    have lal := lenB y hy
    have hsuccI := ft_succ (iI x) (Nat.zero_le y)
    obtain ⟨al, hal⟩ : ∃ l, putAll al1 (ft (iI x) 0 y) = l := ⟨_, rfl⟩
    have hnext : putAll al1 (ft (iI x) 0 (y + 1)) = putAll al (iI x y) := by rw [hsuccI, putAll_append, hal]
    rw [hal] at lal ⊢
    refine SatD.seq ?_
    refine SatD.regSeq hΓ follows [1, 2, 3, 4, 9, 128] ?_
    simp [d14r20]
    refine SatD.cond rfl (fun hcc => ?_) (fun hcc => ?_)
    · simp at hcc
      have w2y : IntKind.i64.wrap (2 * (y : Int)) = 2 * y := wrap_id (by omega)
      refine SatD.skip ?_
      simp
      refine SatD.seq ?_
      refine SatD.to ⟨DM.look [(1, .v (.box [.sl (colsT x.columns), .sl (intsT x.insert), ti x.swap])), (2, .ptr 1003 0), (3, .v (ti n)), (4, .v (.sl (arcsT (putAll al (iI x y))))), (9, .v (ti y))], obs [(1003, .box [.v (ti 0), .nil0, .nil0])], 150000, 1000, []⟩ ?_ ?_
      · refine SatD.block ?_
        refine SatD.regSeq hΓ follows [1, 2, 3, 4, 9, 10] ?_
        simp [d14r21]
        have lB : ∀ m, m ≤ n + 1 → (putAll al (ft (iM x y) y m)).length ≤ 910000 := by
          intro m hm
          have h1 := putAll_len (ft (iM x y) y m) al
          have h2 := ft_len (f := iM x y) (B := 100) (fun k => iM_len x y k ht) y m
          omega
        refine SatD.block ?_
        refine SatD.loop (fun m : Nat => ⟨DM.look [(1, .v (.box [.sl (colsT x.columns), .sl (intsT x.insert), ti x.swap])), (2, .ptr 1003 0), (3, .v (ti n)), (4, .v (.sl (arcsT (putAll al (ft (iM x y) y m))))), (9, .v (ti y)), (10, .v (ti m))], obs [(1003, .box [.v (ti 0), .nil0, .nil0])], 120000, 1000, []⟩)
          (fun m => y ≤ m ∧ m ≤ n + 1) (fun m => n + 1 - m) y (Le.keep ?_ ?_ ?_ ?_) (by omega) (fun m hm => ?_)
        · simp
        · simp
        · simp
        · simp [ft_nil, putAll]
        obtain ⟨hm1, hm2⟩ := hm
        have lalm := lB m hm2
        have hsuccM := ft_succ (iM x y) hm1
        obtain ⟨alm, halm⟩ : ∃ l, putAll al (ft (iM x y) y m) = l := ⟨_, rfl⟩
        have hnextM : putAll al (ft (iM x y) y (m + 1)) = putAll alm (iM x y m) := by rw [hsuccM, putAll_append, halm]
        rw [halm] at lalm ⊢
        refine SatD.seq ?_
        refine SatD.regSeq hΓ follows [1, 2, 3, 4, 9, 10, 134] ?_
        simp [d14r22]
        refine SatD.cond rfl (fun hcm => ?_) (fun hcm => ?_)
        · simp at hcm
          have w2m : IntKind.i64.wrap (2 * (m : Int)) = 2 * m := wrap_id (by omega)
          have wmy : IntKind.i64.wrap ((m : Int) - y) = ((m - y : Nat) : Int) := by rw [wrap_id (by omega)]; omega
          obtain ⟨d, hdd⟩ : ∃ d, delC x y m = d := ⟨_, rfl⟩
          have hdb' := hdb y m
          rw [hdd] at hdb'
          refine SatD.skip ?_
          simp
          refine SatD.seq ?_
          refine SatD.to ⟨DM.look [(1, .v (.box [.sl (colsT x.columns), .sl (intsT x.insert), ti x.swap])), (2, .ptr 1003 0), (3, .v (ti n)), (4, .v (.sl (arcsT (putAll alm (iM x y m))))), (9, .v (ti y)), (10, .v (ti m))], obs [(1003, .box [.v (ti 0), .nil0, .nil0])], 140000, 1000, []⟩ ?_ ?_
          · refine SatD.block ?_
            refine SatD.regSeq hΓ follows [1, 2, 3, 4, 9, 10, 11] ?_
            simp [d14r23]
            have lC : ∀ t, t ≤ tm → (putAll alm (ft (iT x y m) 0 t)).length ≤ 920000 := by
              intro t htt
              have h1 := putAll_len (ft (iT x y m) 0 t) alm
              have h2 := ft_len (f := iT x y m) (B := 1) (fun k => by simp [iT]) 0 t
              omega
            refine SatD.block ?_
            refine SatD.loop (fun t : Nat => ⟨DM.look [(1, .v (.box [.sl (colsT x.columns), .sl (intsT x.insert), ti x.swap])), (2, .ptr 1003 0), (3, .v (ti n)), (4, .v (.sl (arcsT (putAll alm (ft (iT x y m) 0 t))))), (9, .v (ti y)), (10, .v (ti m)), (11, .v (ti t))], obs [(1003, .box [.v (ti 0), .nil0, .nil0])], 130000, 1000, []⟩)
              (fun t => t ≤ tm) (fun t => tm - t) 0 (Le.keep ?_ ?_ ?_ ?_) (by simp) (fun t htt => ?_)
            · simp
            · simp
            · simp
            · simp [ft_nil, putAll]
            have lalt := lC t htt
            have hsuccT := ft_succ (iT x y m) (Nat.zero_le t)
            obtain ⟨alt, halt⟩ : ∃ l, putAll alm (ft (iT x y m) 0 t) = l := ⟨_, rfl⟩
            have hnextT : putAll alm (ft (iT x y m) 0 (t + 1)) = putAll alt (iT x y m t) := by rw [hsuccT, putAll_append, halt]
            rw [halt] at lalt ⊢
            refine SatD.seq ?_
            refine SatD.regSeq hΓ follows [1, 2, 3, 4, 9, 10, 11, 141] ?_
            simp [d14r24, htm]
            refine SatD.cond rfl (fun hct => ?_) (fun hct => ?_)
            · simp at hct
              refine SatD.skip ?_
              simp
              refine SatD.seq ?_
              refine SatD.block ?_
              have htx : t < x.insert.length := by omega
              have hrr := rowAt_ints htx
              obtain ⟨u, hu⟩ : ∃ u, x.insert.getD t default = u := ⟨_, rfl⟩
              have hub := hinp u (by rw [← hu]; simp [List.getD, htx])
              have hiT : iT x y m t = [⟨2 * y, 2 * m, t, satA d u, dels (m - y) ++ [(3, (t : Int))]⟩] := by unfold iT; rw [hdd, hu]
              rw [hu] at hrr
              refine SatD.reg hΓ follows [1, 2, 3, 4, 9, 10, 11] ?_
              simp [d14r25, hxe, hdd, w2y, w2m, wmy, htm, hrr, hct]
              refine ⟨⟨y, m, ⟨rfl, rfl⟩, hm1, by omega⟩, ⟨d, u, ⟨rfl, rfl⟩, by omega, by omega⟩, ⟨m - y, rfl, by omega⟩, ⟨alt, ⟨rfl, ⟨⟨2 * y, 2 * m, t, satA d u, dels (m - y) ++ [(3, (t : Int))]⟩, rfl⟩⟩, by omega⟩, ?_⟩
              refine SatD.reg hΓ follows [1, 2, 3, 4, 9, 10, 11] ?_
              simp [d14r26]
              rw [wrap_id (by omega)]
              refine ⟨t + 1, Le.keep ?_ ?_ ?_ ?_, by omega, by omega⟩
              · simp
              · simp
              · simp
              · rw [hiT] at hnextT
                have hn2 : putAll alm (ft (iT x y m) 0 (t + 1)) = putL alt ⟨2 * y, 2 * m, t, satA d u, dels (m - y) ++ [(3, (t : Int))]⟩ := hnextT
                simp [hn2]
            · simp at hct
              have : t = tm := by omega
              subst this
              refine SatD.exit ⟨rfl, Le.keep ?_ ?_ ?_ ?_⟩
              · simp
              · simp
              · simp
              · simp [← halt, iM, htm]
          · refine SatD.reg hΓ follows [1, 2, 3, 4, 9, 10] ?_
            simp [d14r27]
            rw [wrap_id (by omega)]
            refine ⟨m + 1, Le.keep ?_ ?_ ?_ ?_, by omega, by omega⟩
            · simp
            · simp
            · simp
            · simp [hnextM]
        · simp at hcm
          have : m = n + 1 := by omega
          subst this
          refine SatD.exit ⟨rfl, Le.keep ?_ ?_ ?_ ?_⟩
          · simp
          · simp
          · simp
          · simp [← halm, iI, hn]
      · refine SatD.reg hΓ follows [1, 2, 3, 4, 9] ?_
        simp [d14r28]
        rw [wrap_id (by omega)]
        refine ⟨y + 1, Le.keep ?_ ?_ ?_ ?_, by omega, by omega⟩
        · simp
        · simp
        · simp
        · simp [hnext]
    · simp at hcc
      have : y = n + 1 := by omega
      subst this
      refine SatD.exit ⟨rfl, Le.keep ?_ ?_ ?_ ?_⟩
      · simp
      · simp
      · simp
      · simp [← hal2, hal]
  simp
  have lal2 : al2.length ≤ 900000 := by rw [← hal2]; exact lenB _ (by omega)
  obtain ⟨N, hN⟩ : ∃ N, 2 * n + 1 = N := ⟨_, rfl⟩
  have w2n : IntKind.i64.wrap (2 * (n : Int)) = 2 * n := wrap_id (by omega)
  have w2n1 : IntKind.i64.wrap (2 * (n : Int) + 1) = (N : Int) := by rw [wrap_id (by omega)]; omega
  refine SatD.regSeq hΓ follows [1, 2, 3, 12] ?_
  simp [d14r29, w2n, w2n1]
  refine SatD.regSeq hΓ follows [1, 2, 3, 12, 13] ?_
  simp [d14r30, w2n, w2n1]
  refine ⟨by simp [roomOk]; omega, ?_⟩
  refine SatD.seq ?_
  refine SatD.regSeq hΓ follows [1, 2, 3, 12, 13, 14] ?_
  simp [d14r31]
  have hrl : (refFin x 0).length = N := by simp [refFin, hn, hN]
  have hlenF : ∀ k, (refFin x k).length = N := fun k => by simp [refFin, hn, hN]
  have hF0 : List.replicate N [T.int IntKind.i64 0] = intsT (refFin x 0) := by
    rw [← hN, ← hn]
    apply List.ext_getElem
    · simp [refFin, intsT]
    · intro i h1 h2
      simp [refFin, intsT]
  have hFs : ∀ k, k < N → (refFin x k).set k (if k % 2 = 0 then delC x (k / 2) n else 1099511627776) = refFin x (k + 1) := by
    intro k hk
    rw [← hn]
    apply List.ext_getElem
    · simp [refFin]
    · intro i h1 h2
      rw [List.getElem_set]
      simp only [refFin, List.getElem_map, List.getElem_range]
      by_cases e : k = i
      · subst e
        simp
      · rw [if_neg e]
        have hq : (i < k + 1) = (i < k) := propext ⟨fun h => by omega, fun h => by omega⟩
        simp only [hq]
  rw [hF0]
  refine SatD.block ?_
  refine SatD.loop (fun k : Nat => ⟨DM.look [(1, .v (.box [.sl (colsT x.columns), .sl (intsT x.insert), ti x.swap])), (2, .ptr 1003 0), (3, .v (ti n)), (12, .ptr 100013 0), (13, .aref 100378 0), (14, .v (ti k))], obs [(1003, .box [.v (ti 0), .nil0, .nil0]), (100013, .box [.v (ti N), .v (.sl (arcsT al2)), .nil0]), (100378, .arr 0 3 1 (intsT (refFin x k)))], 200000, 1000, []⟩)
    (fun k => k ≤ N) (fun k => N - k) 0 (Le.keep ?_ ?_ ?_ ?_) (by simp) (fun k hk => ?_)
  · simp
  · simp
  · simp
  · simp
  refine SatD.seq ?_
  refine SatD.regSeq hΓ follows [1, 2, 3, 12, 13, 14, 180] ?_
  simp [d14r32, hlenF]
  refine SatD.cond rfl (fun hck => ?_) (fun hck => ?_)
  · simp at hck
    have hrw : DM.rowAt (intsT (refFin x k)) (k : Int) = [ti ((refFin x k).getD k default)] := rowAt_ints (by rw [hlenF]; exact hck)
    have hrw2 : DM.rowAt (intsT ((refFin x k).set k 1099511627776)) (k : Int) = [ti (((refFin x k).set k 1099511627776).getD k default)] := rowAt_ints (by rw [List.length_set, hlenF]; exact hck)
    have hs := hFs k hck
    refine SatD.skip ?_
    simp
    refine SatD.seq ?_
    refine SatD.to ⟨DM.look [(1, .v (.box [.sl (colsT x.columns), .sl (intsT x.insert), ti x.swap])), (2, .ptr 1003 0), (3, .v (ti n)), (12, .ptr 100013 0), (13, .aref 100378 0), (14, .v (ti k))], obs [(1003, .box [.v (ti 0), .nil0, .nil0]), (100013, .box [.v (ti N), .v (.sl (arcsT al2)), .nil0]), (100378, .arr 0 3 1 (intsT (refFin x (k + 1))))], 300000, 1000, []⟩ ?_ ?_
    · refine SatD.block ?_
      refine SatD.regSeq hΓ follows [1, 2, 3, 12, 13, 14] ?_
      simp [d14r33, hlenF, hck, hrw]
      rw [show (intsT (refFin x k)).set k [T.int IntKind.i64 1099511627776] = intsT ((refFin x k).set k 1099511627776) from set_ints _ _ _]
      refine SatD.le (Le.keep (o := [(1003, .box [.v (ti 0), .nil0, .nil0]), (100013, .box [.v (ti N), .v (.sl (arcsT al2)), .nil0]), (100378, .arr 0 3 1 (intsT ((refFin x k).set k 1099511627776)))]) (l := [(1, .v (.box [.sl (colsT x.columns), .sl (intsT x.insert), ti x.swap])), (2, .ptr 1003 0), (3, .v (ti n)), (12, .ptr 100013 0), (13, .aref 100378 0), (14, .v (ti k))]) (nxt' := 210000) ?_ ?_ ?_ ?_) ?_
      · simp
      · simp
      · simp
      · simp
      have wm : (k : Int).tmod 2 = k % 2 := tmod2 (by omega)
      have wd : (k : Int).tdiv 2 = ((k / 2 : Nat) : Int) := by rw [tdiv2 (by omega)]; omega
      have ww : IntKind.i64.wrap ((k : Int) % 2) = k % 2 := wrap_id (by omega)
      have ww2 : IntKind.i64.wrap ((k / 2 : Nat) : Int) = ((k / 2 : Nat) : Int) := wrap_id (by omega)
      obtain ⟨h2, hh2⟩ : ∃ h, k / 2 = h := ⟨_, rfl⟩
      rw [hh2] at wd ww2 hs
      refine SatD.regSeq hΓ follows [1, 2, 3, 12, 13, 14, 188] ?_
      simp [d14r34, wm, ww]
      refine SatD.cond rfl (fun h => ?_) (fun h => ?_)
      · simp at h
        have hk2 : k % 2 = 0 := by omega
        rw [if_pos hk2] at hs
        refine SatD.reg hΓ follows [1, 2, 3, 12, 13, 14] ?_
        simp [d14r35, hxe, wd, ww2, hlenF, hck, hrw2]
        refine ⟨⟨h2, n, ⟨rfl, rfl⟩, by omega, by omega⟩, Le.keep ?_ ?_ ?_ ?_⟩
        · simp
        · simp
        · simp [← hs, ← set_ints]
        · simp
      · simp at h
        have hk2 : ¬ k % 2 = 0 := by omega
        rw [if_neg hk2] at hs
        refine SatD.skip ⟨rfl, Le.keep ?_ ?_ ?_ ?_⟩
        · simp
        · simp
        · simp [hs]
        · simp
    · refine SatD.reg hΓ follows [1, 2, 3, 12, 13, 14] ?_
      simp [d14r36]
      rw [wrap_id (by omega)]
      refine ⟨k + 1, Le.keep ?_ ?_ ?_ ?_, by omega, by omega⟩
      · simp
      · simp
      · simp
      · simp
  · simp at hck
    have : k = N := by omega
    subst this
    refine SatD.exit ?_
    simp
    refine SatD.regSeq hΓ follows [2, 12] ?_
    simp [d14r37]
    refine SatD.regSeq hΓ follows [2] ?_
    simp [d14r38]
    refine SatD.ret ?_
    subst hR
    rw [hn, hN, hal1, hal2]
    simp [d14res, Lattice.enc]
    omega
end Go.Proofs
