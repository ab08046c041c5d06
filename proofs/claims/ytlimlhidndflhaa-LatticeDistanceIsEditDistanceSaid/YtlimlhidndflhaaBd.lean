/- The edit distance of the program: steps. Conditions: none. -/
import Derived.Test.YtlimlhidndflhaaBc
namespace Go.Proofs
open Go.DM Go.DM.Srt
set_option linter.unusedSimpArgs false
set_option linter.unusedVariables false

/-- A possible operation: its kind, its terminal, its cost, how many tokens and terminals it passes. -/
structure Stp where
  (k t c a e : Int)
  deriving Inhabited
def Stp.enc (s : Stp) : List T := [ti s.k, ti s.t, ti s.c, ti s.a, ti s.e]
def stpsT (l : List Stp) : List (List T) := l.map Stp.enc
@[simp] theorem stpsT_nil : stpsT [] = [] := rfl
def decStp : List T → Stp
  | [a, b, c, d, e] => ⟨unti a, unti b, unti c, unti d, unti e⟩
  | _ => default
@[simp] theorem decStps_enc (l : List Stp) : (stpsT l).map decStp = l := map_map_id (fun s => by simp [decStp, Stp.enc, unti]) l
@[simp] theorem stpsT_len (l : List Stp) : (stpsT l).length = l.length := by simp [stpsT]
theorem rowAt_stps {l : List Stp} {y : Nat} (h : y < l.length) : DM.rowAt (stpsT l) y = (l.getD y default).enc := by simp [DM.rowAt, stpsT, h]
theorem stpsT_app (l m : List Stp) : stpsT (l ++ m) = stpsT l ++ stpsT m := by simp [stpsT]
def st1 (x : Input) (y : List Int) (i j : Nat) : List Stp := if rdP x y i j then [⟨1, yAt y j, readAt x i (yAt y j).toNat, 1, 1⟩] else []
def st2 (x : Input) (i : Nat) : List Stp := if i < x.columns.length ∧ delAt x i < INF then [⟨2, 0, delAt x i, 1, 0⟩] else []
def st3 (x : Input) (y : List Int) (j : Nat) : List Stp := if j < y.length then [⟨3, yAt y j, insAt x (yAt y j).toNat, 0, 1⟩] else []
def st4 (x : Input) (y : List Int) (i j : Nat) : List Stp := if swP x y i j then [⟨4, 0, x.swap, 2, 2⟩] else []
def sL2 (x : Input) (y : List Int) (i j : Nat) : List Stp := st1 x y i j ++ st2 x i
def sL3 (x : Input) (y : List Int) (i j : Nat) : List Stp := sL2 x y i j ++ st3 x y j
def stepsL (x : Input) (y : List Int) (i j : Nat) : List Stp := sL3 x y i j ++ st4 x y i j
theorem stepsL_len (x : Input) (y : List Int) (i j : Nat) : (stepsL x y i j).length ≤ 4 := by
  unfold stepsL sL3 sL2 st1 st2 st3 st4
  split <;> split <;> split <;> split <;> simp
set_option maxRecDepth 20000 in
set_option maxHeartbeats 8000000 in
theorem t43 (x : Input) (y : List Int) (hb : belowP y x.insert.length) (hy : y.length ≤ 1000000000) : CallsOk Try.prog 43 [x.enc, .sl (intsT y)] (.bool true) := by
  have hΓ := okE
  refine c43.ok (by simp) (initSt_sat ?_)
  simp [Input.enc]
  refine SatD.regSeq hΓ follows [1, 2] ?_
  simp [d43r0]
  refine SatD.le (Le.keep (o := []) (l := [(1, .v (.sl (intsT y))), (2, .v (.box [.sl (colsT x.columns), .sl (intsT x.insert), ti x.swap]))]) (nxt' := 1200) ?_ ?_ ?_ ?_) ?_
  · simp
  · simp
  · simp
  · simp
  refine SatD.seq ?_
  refine SatD.regSeq hΓ follows [2, 7, 8, 9] ?_
  simp [d43r1]
  refine SatD.block ?_
  refine SatD.loop (fun j : Nat => ⟨DM.look [(2, .v (.box [.sl (colsT x.columns), .sl (intsT x.insert), ti x.swap])), (7, .v (.sl (intsT y))), (8, .v (ti y.length)), (9, .v (ti j))], obs [], 2000, 1000, []⟩)
    (fun j => j ≤ y.length) (fun j => y.length - j) 0 (Le.keep (o := []) ?_ ?_ ?_ ?_) (by simp) (fun j hj => ?_)
  · simp
  · simp
  · simp
  · simp
  refine SatD.regSeq hΓ follows [2, 7, 8, 9, 10] ?_
  simp [d43r2]
  refine SatD.seq ?_
  refine SatD.cond rfl (fun hcc => ?_) (fun hcc => ?_)
  · simp at hcc
    refine SatD.skip ?_
    simp
    refine SatD.seq ?_
    refine SatD.block ?_
    have r1 := rowAt_ints hcc
    have hbj := belowP_at hb hcc
    obtain ⟨u, hu⟩ : ∃ u, y.getD j default = u := ⟨_, rfl⟩
    rw [hu] at r1
    unfold yAt at hbj
    rw [hu] at hbj
    have q1 : ¬ u < 0 := by omega
    have q2 : ¬ (x.insert.length : Int) ≤ u := by omega
    refine SatD.regSeq hΓ follows [2, 6, 7, 8, 9] ?_
    simp [d43r3, r1, hcc]
    refine SatD.regSeq hΓ follows [2, 7, 8, 9, 21] ?_
    simp [d43r4, q1, q2]
    refine SatD.cond rfl (fun hcc => by cases hcc) (fun hcc => ?_)
    refine SatD.skip ?_
    simp
    refine SatD.reg hΓ follows [2, 7, 8, 9] ?_
    simp [d43r6]
    rw [wrap_id (by omega)]
    refine ⟨j + 1, Le.keep (o := []) ?_ ?_ ?_ ?_, by omega, by omega⟩
    · simp
    · simp
    · simp
    · simp
  · simp at hcc
    refine SatD.exit ?_
    simp
    refine SatD.regSeq hΓ follows [4] ?_
    simp [d43r7]
    refine SatD.ret ?_
    simp [d43res]
set_option maxRecDepth 20000 in
set_option maxHeartbeats 8000000 in
theorem t74 (x : Input) (m : Nat) (hm : m ≤ 1000000) (hl : x.columns.length ≤ 1000000) : CallsOk Try.prog 74 [x.enc, ti m] (.bool (swapOk x m)) := by
  have hΓ := okE
  refine c74.ok (by simp) (initSt_sat ?_)
  simp [Input.enc]
  refine SatD.regSeq hΓ follows [1, 2] ?_
  simp [d74r0]
  refine SatD.le (Le.keep (o := []) (l := [(1, .v (ti m)), (2, .v (.box [.sl (colsT x.columns), .sl (intsT x.insert), ti x.swap]))]) (nxt' := 1200) ?_ ?_ ?_ ?_) ?_
  · simp
  · simp
  · simp
  · simp
  obtain ⟨v, hv⟩ : ∃ v, swapOk x m = v := ⟨_, rfl⟩
  rw [hv]
  unfold swapOk at hv
  have w1 : IntKind.i64.wrap ((m : Int) + 1) = ((m + 1 : Nat) : Int) := by rw [wrap_id (by omega)]; omega
  obtain ⟨m1, hm1⟩ : ∃ k, m + 1 = k := ⟨_, rfl⟩
  rw [hm1] at w1 hv
  refine SatD.regToS hΓ follows [(4, .v (.bool v))] ?_ ?_
  · by_cases q1 : 0 < x.swap
    · by_cases q2 : m1 < x.columns.length
      · have q3 : m < x.columns.length := by omega
        have r1 := rowAt_cols q3
        have r2 := rowAt_cols q2
        obtain ⟨⟨k1, rd1, d1⟩, e1⟩ : ∃ c, x.columns.getD m default = c := ⟨_, rfl⟩
        obtain ⟨⟨k2, rd2, d2⟩, e2⟩ : ∃ c, x.columns.getD m1 default = c := ⟨_, rfl⟩
        rw [e1] at r1 hv
        rw [e2] at r2 hv
        simp only at hv
        by_cases q4 : 0 ≤ k1
        · by_cases q5 : 0 ≤ k2
          · have : v = true := by rw [← hv]; simp [q1, q2, q4, q5]
            simp [d74r1, w1, q1, q2, q3, r1, r2, Column.enc, q4, q5, this]
          · have : v = false := by rw [← hv]; simp [q5]
            simp [d74r1, w1, q1, q2, q3, r1, r2, Column.enc, q4, q5, this]
        · have : v = false := by rw [← hv]; simp [q4]
          simp [d74r1, w1, q1, q2, q3, r1, r2, Column.enc, q4, this]
      · have : v = false := by rw [← hv]; simp [q2]
        simp [d74r1, w1, q1, q2, this]
    · have : v = false := by rw [← hv]; simp [q1]
      simp [d74r1, w1, q1, this]
  refine SatD.ret ?_
  simp [d74res]
set_option maxRecDepth 20000 in
set_option maxHeartbeats 8000000 in
theorem t57 (a b : Int) (ha : -1000000000000000000 ≤ a ∧ a ≤ 1000000000000000000) (hb : -1000000000000000000 ≤ b ∧ b ≤ 1000000000000000000) : CallsOk Try.prog 57 [ti a, ti b] (ti (min (a + b) INF)) := by
  have hΓ := okE
  refine c57.ok (by simp) (initSt_sat ?_)
  simp
  refine SatD.regSeq hΓ follows [0, 1] ?_
  simp [d57r0]
  have w1 : IntKind.i64.wrap (a + b) = a + b := wrap_id (by omega)
  refine SatD.regSeq hΓ follows [4] ?_
  simp [d57r1, w1]
  refine SatD.ret ?_
  simp [d57res]

theorem okE56 : EnvOk Try.prog (envOf [(74, e73)]) := by
  refine EnvOk.cons EnvOk.nil ?_
  rintro ts ⟨x, m, rfl, h1, h2⟩
  exact ⟨by simpa using t74 x m h1 h2, fun _ => rfl⟩
set_option maxRecDepth 20000 in
set_option maxHeartbeats 8000000 in
theorem t56 (x : Input) (y : List Int) (i j : Nat) (hx : edOk x y) (hi : i ≤ x.columns.length) (hj : j ≤ y.length) :
    CallsOk Try.prog 56 [x.enc, .sl (intsT y), ti i, ti j] (.sl (stpsT (stepsL x y i j))) := by
  have hΓ := okE56
  have hn := hx.n
  have hm := hx.m
  have hI : INF = 1099511627776 := rfl
  have hcol : ∀ (q : Nat), q < x.columns.length → (x.columns.getD q default).read.length = x.insert.length := by
    intro q hq
    exact (hx.rd (x.columns.getD q default) (by simp [List.getD, hq])).1
  have hl1 : (st1 x y i j).length ≤ 1 := by unfold st1; split <;> simp
  have hl2 : (st2 x i).length ≤ 1 := by unfold st2; split <;> simp
  have hl3 : (st3 x y j).length ≤ 1 := by unfold st3; split <;> simp
  have hl4 : (sL2 x y i j).length ≤ 2 := by unfold sL2; rw [List.length_append]; omega
  have hl5 : (sL3 x y i j).length ≤ 3 := by unfold sL3; rw [List.length_append]; omega
  refine c56.ok (by simp) (initSt_sat ?_)
  simp [Input.enc]
  refine SatD.regSeq hΓ follows [1, 2, 3, 4] ?_
  simp [d56r0]
  refine SatD.le (Le.keep (o := []) (l := [(1, .v (.sl (intsT y))), (2, .v (ti i)), (3, .v (ti j)), (4, .v (.box [.sl (colsT x.columns), .sl (intsT x.insert), ti x.swap]))]) (nxt' := 1200) ?_ ?_ ?_ ?_) ?_
  · simp
  · simp
  · simp
  · simp
  refine SatD.regSeq hΓ follows [1, 2, 3, 4, 9] ?_
  simp [d56r1]
  refine SatD.le (Le.keep (o := []) (l := [(1, .v (.sl (intsT y))), (2, .v (ti i)), (3, .v (ti j)), (4, .v (.box [.sl (colsT x.columns), .sl (intsT x.insert), ti x.swap])), (9, .nil0)]) (nxt' := 2000) ?_ ?_ ?_ ?_) ?_
  · simp
  · simp
  · simp
  · simp
  refine SatD.le (Le.nilSlot (k := 9) 92 (sz := 5) (by omega) (by simp)) ?_
  rw [obs_setO]
  have w0 : IntKind.i64.wrap ((y.length : Int) - j) = (y.length : Int) - j := wrap_id (by omega)
  refine SatD.regSeq hΓ follows [1, 2, 3, 4, 9, 10, 11] ?_
  simp [d56r2, w0]
  refine SatD.seq ?_
  refine SatD.regToS hΓ follows [(1, .v (.sl (intsT y))), (2, .v (ti i)), (3, .v (ti j)), (4, .v (.box [.sl (colsT x.columns), .sl (intsT x.insert), ti x.swap])), (9, .aref 2000 0), (10, .v (.bool (decide (i < x.columns.length)))), (11, .v (ti ((y.length : Int) - j))), (40, .v (.bool (decide (rdP x y i j))))] ?_ ?_
  · by_cases q2 : i < x.columns.length
    · by_cases q3 : j < y.length
      · have ry := rowAt_ints q3
        have hyj := hx.y j q3
        have ey : y.getD j default = yAt y j := rfl
        rw [ey] at ry
        obtain ⟨v, hv⟩ : ∃ v : Nat, yAt y j = v := ⟨(yAt y j).toNat, by omega⟩
        rw [hv] at ry hyj
        have rc := rowAt_cols q2
        have hc := hcol i q2
        have erd : readAt x i v = (x.columns.getD i default).read.getD v default := rfl
        obtain ⟨⟨kd, rd, dl⟩, ec⟩ : ∃ c, x.columns.getD i default = c := ⟨_, rfl⟩
        rw [ec] at rc hc erd
        simp only at hc erd
        have hvl : v < rd.length := by omega
        have rr := rowAt_ints hvl
        rw [← erd] at rr
        have q3' : 0 < (y.length : Int) - j := by omega
        have q3' : j < y.length := q3
        have hrd : rdP x y i j ↔ 0 ≤ readAt x i v := by unfold rdP; rw [hv]; simp [q2, q3]
        obtain ⟨g, hg⟩ : ∃ g, readAt x i v = g := ⟨_, rfl⟩
        rw [hg] at rr hrd
        by_cases q4 : 0 ≤ g
        · have q5 := hrd.2 q4
          simp [d56r3, q2, q3, q4, q5, ry, rc, rr, hvl, Column.enc]
        · have q5 : ¬ rdP x y i j := fun h => q4 (hrd.1 h)
          simp [d56r3, q2, q3, q4, q5, ry, rc, rr, hvl, Column.enc]
      · have q5 : ¬ rdP x y i j := fun h => q3 h.2.1
        simp [d56r3, q2, q3, q5]
    · have q5 : ¬ rdP x y i j := fun h => q2 h.1
      simp [d56r3, q2, q5]
  refine SatD.to ⟨DM.look [(1, .v (.sl (intsT y))), (2, .v (ti i)), (3, .v (ti j)), (4, .v (.box [.sl (colsT x.columns), .sl (intsT x.insert), ti x.swap])), (9, .aref 2000 0), (10, .v (.bool (decide (i < x.columns.length)))), (11, .v (ti ((y.length : Int) - j)))], obs [(2000, .arr 0 92 5 (stpsT (st1 x y i j)))], 3000, 1000, []⟩ ?_ ?_
  · refine SatD.cond rfl (fun h1 => ?_) (fun h1 => ?_)
    · simp only [decide_eq_true_eq] at h1
      have hL : stpsT (st1 x y i j) = stpsT ([]) ++ [(⟨1, yAt y j, readAt x i (yAt y j).toNat, 1, 1⟩ : Stp).enc] := by
        rw [show stpsT [] = [] from rfl, List.nil_append]
        unfold st1
        rw [if_pos h1]
        rfl
      obtain ⟨q2, q3, q4⟩ := h1
      have ry := rowAt_ints q3
      have hyj := hx.y j q3
      have ey : y.getD j default = yAt y j := rfl
      rw [ey] at ry
      obtain ⟨v, hv⟩ : ∃ v : Nat, yAt y j = v := ⟨(yAt y j).toNat, by omega⟩
      rw [hv] at ry hyj
      have rc := rowAt_cols q2
      have hc := hcol i q2
      have erd : readAt x i v = (x.columns.getD i default).read.getD v default := rfl
      obtain ⟨⟨kd, rd, dl⟩, ec⟩ : ∃ c, x.columns.getD i default = c := ⟨_, rfl⟩
      rw [ec] at rc hc erd
      simp only at hc erd
      have hvl : v < rd.length := by omega
      have rr := rowAt_ints hvl
      rw [← erd] at rr
      rw [hv, Int.toNat_natCast] at q4
      have hrow : (⟨1, yAt y j, readAt x i (yAt y j).toNat, 1, 1⟩ : Stp).enc = [ti 1, ti v, ti (readAt x i v), ti 1, ti 1] := by rw [hv]; rfl
      rw [hrow] at hL
      refine SatD.reg hΓ follows [1, 2, 3, 4, 9, 10, 11] ?_
      simp [d56r4, q2, q3, ry, rc, rr, hvl, Column.enc, chunk, roomOk]
      exact Le.keep (by simp) (by simp) (by simp [-List.append_assoc, hL, Stp.enc, chunk]) (by simp)
    · simp only [decide_eq_false_iff_not] at h1
      have hL : stpsT (st1 x y i j) = stpsT ([]) := by
        rw [show stpsT [] = [] from rfl]
        unfold st1
        rw [if_neg h1]
        simp [stpsT]
      refine SatD.skip ?_
      simp
      exact Le.keep (by simp) (by simp) (by simp [-List.append_assoc, hL, Stp.enc, chunk]) (by simp)
  refine SatD.seq ?_
  refine SatD.regToS hΓ follows [(1, .v (.sl (intsT y))), (2, .v (ti i)), (3, .v (ti j)), (4, .v (.box [.sl (colsT x.columns), .sl (intsT x.insert), ti x.swap])), (9, .aref 2000 0), (11, .v (ti ((y.length : Int) - j))), (71, .v (.bool (decide (i < x.columns.length ∧ delAt x i < INF))))] ?_ ?_
  · by_cases q2 : i < x.columns.length
    · have rc := rowAt_cols q2
      have edl : delAt x i = (x.columns.getD i default).delete := rfl
      obtain ⟨⟨kd, rd, dl⟩, ec⟩ : ∃ c, x.columns.getD i default = c := ⟨_, rfl⟩
      rw [ec] at rc edl
      simp only at edl
      rw [edl]
      by_cases q4 : dl < 1099511627776
      · have q5 : dl < INF := q4
        simp [d56r5, q2, q4, q5, rc, Column.enc]
      · have q5 : ¬ dl < INF := q4
        simp [d56r5, q2, q4, q5, rc, Column.enc]
    · simp [d56r5, q2]
  refine SatD.to ⟨DM.look [(1, .v (.sl (intsT y))), (2, .v (ti i)), (3, .v (ti j)), (4, .v (.box [.sl (colsT x.columns), .sl (intsT x.insert), ti x.swap])), (9, .aref 2000 0), (11, .v (ti ((y.length : Int) - j)))], obs [(2000, .arr 0 92 5 (stpsT (sL2 x y i j)))], 4000, 1000, []⟩ ?_ ?_
  · refine SatD.cond rfl (fun h2 => ?_) (fun h2 => ?_)
    · simp only [decide_eq_true_eq] at h2
      have hL : stpsT (sL2 x y i j) = stpsT (st1 x y i j) ++ [(⟨2, 0, delAt x i, 1, 0⟩ : Stp).enc] := by
        rw [show sL2 x y i j = st1 x y i j ++ st2 x i from rfl, stpsT_app]
        unfold st2
        rw [if_pos h2]
        rfl
      obtain ⟨q2, q4⟩ := h2
      have rc := rowAt_cols q2
      have edl : delAt x i = (x.columns.getD i default).delete := rfl
      obtain ⟨⟨kd, rd, dl⟩, ec⟩ : ∃ c, x.columns.getD i default = c := ⟨_, rfl⟩
      rw [ec] at rc edl
      simp only at edl
      rw [edl] at hL
      refine SatD.reg hΓ follows [1, 2, 3, 4, 9, 11] ?_
      simp [d56r6, q2, rc, Column.enc, chunk, roomOk]
      refine ⟨⟨by omega, by omega⟩, ?_⟩
      exact Le.keep (by simp) (by simp) (by simp [-List.append_assoc, hL, Stp.enc, chunk]) (by simp)
    · simp only [decide_eq_false_iff_not] at h2
      have hL : stpsT (sL2 x y i j) = stpsT (st1 x y i j) := by
        rw [show sL2 x y i j = st1 x y i j ++ st2 x i from rfl, stpsT_app]
        unfold st2
        rw [if_neg h2]
        simp [stpsT]
      refine SatD.skip ?_
      simp
      exact Le.keep (by simp) (by simp) (by simp [-List.append_assoc, hL, Stp.enc, chunk]) (by simp)
  refine SatD.seq ?_
  refine SatD.regToS hΓ follows [(1, .v (.sl (intsT y))), (2, .v (ti i)), (3, .v (ti j)), (4, .v (.box [.sl (colsT x.columns), .sl (intsT x.insert), ti x.swap])), (9, .aref 2000 0), (11, .v (ti ((y.length : Int) - j))), (84, .v (.bool (decide (j < y.length))))] ?_ ?_
  · by_cases q3 : j < y.length
    · have q3' : 0 < (y.length : Int) - j := by omega
      simp [d56r7, q3]
    · have q3' : ¬ 0 < (y.length : Int) - j := by omega
      simp [d56r7, q3]
  refine SatD.to ⟨DM.look [(1, .v (.sl (intsT y))), (2, .v (ti i)), (3, .v (ti j)), (4, .v (.box [.sl (colsT x.columns), .sl (intsT x.insert), ti x.swap])), (9, .aref 2000 0), (11, .v (ti ((y.length : Int) - j)))], obs [(2000, .arr 0 92 5 (stpsT (sL3 x y i j)))], 5000, 1000, []⟩ ?_ ?_
  · refine SatD.cond rfl (fun h3 => ?_) (fun h3 => ?_)
    · simp only [decide_eq_true_eq] at h3
      have hL : stpsT (sL3 x y i j) = stpsT (sL2 x y i j) ++ [(⟨3, yAt y j, insAt x (yAt y j).toNat, 0, 1⟩ : Stp).enc] := by
        rw [show sL3 x y i j = sL2 x y i j ++ st3 x y j from rfl, stpsT_app]
        unfold st3
        rw [if_pos h3]
        rfl
      have q3 := h3
      have ry := rowAt_ints q3
      have hyj := hx.y j q3
      have ey : y.getD j default = yAt y j := rfl
      rw [ey] at ry
      obtain ⟨v, hv⟩ : ∃ v : Nat, yAt y j = v := ⟨(yAt y j).toNat, by omega⟩
      rw [hv] at ry hyj
      have hvl : v < x.insert.length := by omega
      have ri := rowAt_ints hvl
      have ein : x.insert.getD v default = insAt x v := rfl
      rw [ein] at ri
      rw [hv, Int.toNat_natCast] at hL
      refine SatD.reg hΓ follows [1, 2, 3, 4, 9, 11] ?_
      simp [d56r8, q3, ry, ri, hvl, chunk, roomOk]
      refine ⟨⟨by omega, by omega⟩, ?_⟩
      exact Le.keep (by simp) (by simp) (by simp [-List.append_assoc, hL, Stp.enc, chunk]) (by simp)
    · simp only [decide_eq_false_iff_not] at h3
      have hL : stpsT (sL3 x y i j) = stpsT (sL2 x y i j) := by
        rw [show sL3 x y i j = sL2 x y i j ++ st3 x y j from rfl, stpsT_app]
        unfold st3
        rw [if_neg h3]
        simp [stpsT]
      refine SatD.skip ?_
      simp
      exact Le.keep (by simp) (by simp) (by simp [-List.append_assoc, hL, Stp.enc, chunk]) (by simp)
  refine SatD.seq ?_
  obtain ⟨xt, hxt⟩ : ∃ xt, x.enc = xt := ⟨_, rfl⟩
  have hxe : T.agg [.sl (colsT x.columns), .sl (intsT x.insert), ti x.swap] = xt := hxt
  have hxd : decX xt = x := by rw [← hxt]; simp
  obtain ⟨sw, hsw⟩ : ∃ b, swapOk x i = b := ⟨_, rfl⟩
  have w1 : IntKind.i64.wrap ((j : Int) + 1) = ((j + 1 : Nat) : Int) := by exact_mod_cast wrapN (n := j + 1) (by omega)
  have w2 : IntKind.i64.wrap ((i : Int) + 1) = ((i + 1 : Nat) : Int) := by exact_mod_cast wrapN (n := i + 1) (by omega)
  obtain ⟨j1, hj1⟩ : ∃ k, j + 1 = k := ⟨_, rfl⟩
  obtain ⟨i1, hi1⟩ : ∃ k, i + 1 = k := ⟨_, rfl⟩
  rw [hj1] at w1
  rw [hi1] at w2
  refine SatD.regToS hΓ follows [(4, .v (.box [.sl (colsT x.columns), .sl (intsT x.insert), ti x.swap])), (9, .aref 2000 0), (136, .v (.bool (decide (swP x y i j))))] ?_ ?_
  · by_cases q0 : 1 < (y.length : Int) - j
    · by_cases q2 : swapOk x i = true
      · have hql := swapOk_lt q2
        rw [hsw] at q2
        subst q2
        have q3 : j1 < y.length := by omega
        have ry1 := rowAt_ints (show j < y.length by omega)
        have ry2 := rowAt_ints q3
        have hi1l : i1 < x.columns.length := by omega
        have hil : i < x.columns.length := by omega
        have rc1 := rowAt_cols hil
        have rc2 := rowAt_cols hi1l
        have hiff : swP x y i j ↔ yAt y j = (x.columns.getD i1 default).kind ∧ yAt y j1 = (x.columns.getD i default).kind := by unfold swP; rw [hj1, hi1, hsw]; simp [q3]
        unfold yAt at hiff
        obtain ⟨⟨k1, rd1, d1⟩, e1⟩ : ∃ c, x.columns.getD i default = c := ⟨_, rfl⟩
        obtain ⟨⟨k2, rd2, d2⟩, e2⟩ : ∃ c, x.columns.getD i1 default = c := ⟨_, rfl⟩
        rw [e1] at rc1 hiff
        rw [e2] at rc2 hiff
        simp only at hiff
        obtain ⟨u1, hu1⟩ : ∃ u, y.getD j default = u := ⟨_, rfl⟩
        obtain ⟨u2, hu2⟩ : ∃ u, y.getD j1 default = u := ⟨_, rfl⟩
        rw [hu1] at ry1 hiff
        rw [hu2] at ry2 hiff
        have hjl : j < y.length := by omega
        by_cases q4 : k2 = u1
        · by_cases q5 : k1 = u2
          · have q6 : swP x y i j := hiff.2 ⟨q4.symm, q5.symm⟩
            simp [d56r9, q0, hxe, hxd, hsw, w1, w2, q3, ry1, ry2, rc1, rc2, hi1l, hil, hjl, q4, q5, q6, Column.enc]
            exact ⟨x, i, ⟨hxt.symm, rfl⟩, by omega, by omega⟩
          · have q6 : ¬ swP x y i j := fun h => q5 (hiff.1 h).2.symm
            simp [d56r9, q0, hxe, hxd, hsw, w1, w2, q3, ry1, ry2, rc1, rc2, hi1l, hil, hjl, q4, q5, q6, Column.enc]
            exact ⟨x, i, ⟨hxt.symm, rfl⟩, by omega, by omega⟩
        · have q6 : ¬ swP x y i j := fun h => q4 (hiff.1 h).1.symm
          simp [d56r9, q0, hxe, hxd, hsw, w1, w2, q3, ry1, rc1, rc2, hi1l, hil, hjl, q4, q6, Column.enc]
          exact ⟨x, i, ⟨hxt.symm, rfl⟩, by omega, by omega⟩
      · have q6 : ¬ swP x y i j := fun h => q2 h.1
        rw [hsw] at q2
        have q2' : sw = false := by simpa using q2
        simp [d56r9, q0, hxe, hxd, hsw, q2', q6]
        exact ⟨x, i, ⟨hxt.symm, rfl⟩, by omega, by omega⟩
    · have q6 : ¬ swP x y i j := fun h => q0 (by have := h.2.1; omega)
      simp [d56r9, q0, q6]
  refine SatD.to ⟨DM.look [(9, .aref 2000 0)], obs [(2000, .arr 0 92 5 (stpsT (stepsL x y i j)))], 6000, 1000, []⟩ ?_ ?_
  · refine SatD.cond rfl (fun h4 => ?_) (fun h4 => ?_)
    · simp only [decide_eq_true_eq] at h4
      have hL : stpsT (stepsL x y i j) = stpsT (sL3 x y i j) ++ [(⟨4, 0, x.swap, 2, 2⟩ : Stp).enc] := by
        rw [show stepsL x y i j = sL3 x y i j ++ st4 x y i j from rfl, stpsT_app]
        unfold st4
        rw [if_pos h4]
        rfl
      refine SatD.reg hΓ follows [9] ?_
      simp [d56r10, chunk, roomOk]
      refine ⟨⟨by omega, by omega⟩, ?_⟩
      exact Le.keep (by simp) (by simp) (by simp [-List.append_assoc, hL, Stp.enc, chunk]) (by simp)
    · simp only [decide_eq_false_iff_not] at h4
      have hL : stpsT (stepsL x y i j) = stpsT (sL3 x y i j) := by
        rw [show stepsL x y i j = sL3 x y i j ++ st4 x y i j from rfl, stpsT_app]
        unfold st4
        rw [if_neg h4]
        simp [stpsT]
      refine SatD.skip ?_
      simp
      exact Le.keep (by simp) (by simp) (by simp [-List.append_assoc, hL, Stp.enc, chunk]) (by simp)
  refine SatD.regSeq hΓ follows [8] ?_
  simp [d56r11]
  refine SatD.ret ?_
  simp [d56res]
end Go.Proofs
/- The edit distance of the program: its table; law 9. Conditions: none. -/
namespace Go.Proofs
open Go.DM Go.DM.Srt
set_option linter.unusedSimpArgs false
set_option linter.unusedVariables false

def rowP (x : Input) (y : List Int) (i c : Nat) : List Int := (List.range (y.length + 1)).map fun k => if c ≤ k then ed x y i k else 0
theorem rowP_len (x : Input) (y : List Int) (i c : Nat) : (rowP x y i c).length = y.length + 1 := by simp [rowP]
theorem rowP_get {x : Input} {y : List Int} {i c k : Nat} (hk : k ≤ y.length) (hc : c ≤ k) : (rowP x y i c).getD k default = ed x y i k := by
  simp [rowP, List.getD, show k < y.length + 1 by omega, hc]
theorem rowP_set {x : Input} {y : List Int} {i c : Nat} (hc : c ≤ y.length) : (rowP x y i (c + 1)).set c (ed x y i c) = rowP x y i c := by
  apply List.ext_getElem
  · simp [rowP]
  · intro k k1 k2
    rw [List.getElem_set]
    simp only [rowP, List.getElem_map, List.getElem_range]
    split
    · rename_i e; subst e; rw [if_pos (Nat.le_refl _)]
    · rename_i e
      by_cases hk : c ≤ k
      · rw [if_pos (by omega), if_pos hk]
      · rw [if_neg (by omega), if_neg hk]
theorem rowP_zero {x : Input} {y : List Int} {i c : Nat} (hc : c = y.length + 1) : intsT (rowP x y i c) = List.replicate c [ti 0] := by
  subst hc
  apply List.ext_getElem
  · simp [rowP]
  · intro k k1 k2
    simp only [intsT, List.length_map, rowP_len] at k1
    simp only [intsT, rowP, List.getElem_map, List.getElem_range, List.getElem_replicate]
    rw [if_neg (by omega)]
theorem ed_end (x : Input) (y : List Int) (h : nnI x) : ed x y x.columns.length y.length = 0 := by
  have h1 := ed_nn h y _ x.columns.length y.length (Nat.lt_succ_self _)
  have h2 : bst x y x.columns.length y.length 0 = 0 := by rw [bst0, if_pos ⟨rfl, rfl⟩]
  have h3 : ed x y x.columns.length y.length = min (min (min (min (bst x y x.columns.length y.length 0) (stV x y x.columns.length y.length 1)) (stV x y x.columns.length y.length 2)) (stV x y x.columns.length y.length 3)) (stV x y x.columns.length y.length 4) := ed_eq x y _ _
  omega
theorem rowP_end {x : Input} {y : List Int} (h : nnI x) : rowP x y x.columns.length (y.length + 1) = rowP x y x.columns.length y.length := by
  unfold rowP
  apply List.map_congr_left
  intro k hk
  rw [List.mem_range] at hk
  rw [if_neg (by omega)]
  split
  · rw [show k = y.length by omega, ed_end x y h]
  · rfl
def boxC (x : Input) (y : List Int) (i : Nat) : List DV := (List.range (x.columns.length + 1)).map fun k => if i ≤ k then .v (.sl (intsT (rowP x y k 0))) else .nil0
def boxI (x : Input) (y : List Int) (q A : Nat) : List DV := (List.range (x.columns.length + 1)).map fun k => if k = q then .aref A 0 else if q < k then .v (.sl (intsT (rowP x y k 0))) else .nil0
theorem boxC_len (x : Input) (y : List Int) (i : Nat) : (boxC x y i).length = x.columns.length + 1 := by simp [boxC]
theorem boxI_len (x : Input) (y : List Int) (q A : Nat) : (boxI x y q A).length = x.columns.length + 1 := by simp [boxI]
theorem boxC_top {x : Input} {y : List Int} {c : Nat} (hc : x.columns.length + 1 = c) : List.replicate c DV.nil0 = boxC x y c := by
  apply List.ext_getElem
  · simp [boxC, hc]
  · intro k k1 k2
    simp at k1
    simp only [boxC, List.getElem_map, List.getElem_range, List.getElem_replicate]
    rw [if_neg (by omega)]
theorem boxI_eq {x : Input} {y : List Int} {q A : Nat} (hq : q ≤ x.columns.length) : List.take q (boxC x y (q + 1)) ++ DV.aref A 0 :: List.drop (q + 1) (boxC x y (q + 1)) = boxI x y q A := by
  apply List.ext_getElem
  · simp [boxC, boxI]; omega
  · intro k k1 k2
    simp only [boxI, List.length_map, List.length_range] at k2
    rw [List.getElem_append]
    split
    · rename_i h
      simp [boxC] at h
      simp only [boxC, boxI, List.getElem_take, List.getElem_map, List.getElem_range]
      rw [if_neg (by omega), if_neg (by omega), if_neg (by omega)]
    · rename_i h
      simp [boxC] at h
      have hmin : min q (x.columns.length + 1) = q := by omega
      rw [List.getElem_cons]
      simp only [boxC, boxI, List.length_take, List.length_map, List.length_range, hmin, List.getElem_map, List.getElem_range, List.getElem_drop]
      by_cases e : k = q
      · subst e; simp
      · rw [dif_neg (by omega), if_neg e, if_pos (by omega), if_pos (by omega)]
        congr 3
        simp only [rowP]
        rw [show q + 1 + (k - q - 1) = k by omega]
theorem boxI_at {x : Input} {y : List Int} {q A k : Nat} (hk : k ≤ x.columns.length) : (boxI x y q A)[k]?.getD DV.undef = if k = q then .aref A 0 else if q < k then .v (.sl (intsT (rowP x y k 0))) else .nil0 := by
  simp [boxI, show k < x.columns.length + 1 by omega]
theorem corDs_of {a b : Obs} {σ : Nat → Nat} : ∀ {l l' : List DV}, l.length = l'.length → (∀ (k : Nat) (d d' : DV), l[k]? = some d → l'[k]? = some d' → corD a b σ d d') → corDs a b σ l l'
  | [], [], _, _ => by simp [corDs]
  | d :: l, d' :: l', hl, h => by
    simp only [corDs]
    exact ⟨h 0 d d' rfl rfl, corDs_of (by simpa using hl) fun k e e' h1 h2 => h (k + 1) e e' (by simpa using h1) (by simpa using h2)⟩
  | [], _ :: _, hl, _ => by simp at hl
  | _ :: _, [], hl, _ => by simp at hl
theorem cor_boxes {x : Input} {y : List Int} {q A : Nat} {a b : Obs} (h : a A = some (.arr 0 3 1 (intsT (rowP x y q 0)))) (hg : gone b id A) : corDs a b id (boxI x y q A) (boxC x y q) := by
  refine corDs_of (by simp [boxI, boxC]) fun k d d' h1 h2 => ?_
  have hk : k < x.columns.length + 1 := by
    have := (List.getElem?_eq_some_iff.1 h1).1
    simpa [boxI] using this
  simp only [boxI, boxC, List.getElem?_map, List.getElem?_range hk, Option.map_some, Option.some.injEq] at h1 h2
  subst h1 h2
  by_cases e : k = q
  · subst e
    simp only [if_pos, Nat.le_refl]
    simp only [corD]
    right
    exact ⟨⟨3, 1, h⟩, hg⟩
  · rw [if_neg e]
    by_cases e2 : q < k
    · rw [if_pos e2, if_pos (by omega)]; simp
    · rw [if_neg e2, if_neg (by omega)]; simp
theorem corC_self {x : Input} {y : List Int} {i k : Nat} {a b : Obs} {d : DV} (h : (boxC x y i)[k]? = some d) : corD a b id d d := by
  have hk : k < x.columns.length + 1 := by
    have := (List.getElem?_eq_some_iff.1 h).1
    simpa [boxC] using this
  simp only [boxC, List.getElem?_map, List.getElem?_range hk, Option.map_some, Option.some.injEq] at h
  subst h
  split <;> simp
theorem corI_self {x : Input} {y : List Int} {q A : Nat} {a b : Obs} (h : (∃ rows, a A = some (.arr 0 3 1 rows)) ∧ ∃ rows, b A = some (.arr 0 3 1 rows)) : corDs a b id (boxI x y q A) (boxI x y q A) := by
  refine corDs_of rfl fun k d d' h1 h2 => ?_
  rw [h1] at h2
  cases h2
  have hk : k < x.columns.length + 1 := by
    have := (List.getElem?_eq_some_iff.1 h1).1
    simpa [boxI] using this
  simp only [boxI, List.getElem?_map, List.getElem?_range hk, Option.map_some, Option.some.injEq] at h1
  subst h1
  split
  · simp only [corD]
    right
    obtain ⟨⟨r1, h1⟩, r2, h2⟩ := h
    exact ⟨rfl, 3, 1, r1, 3, 1, r2, h1, h2⟩
  · split <;> simp
def tabT (x : Input) (y : List Int) : List (List T) := (List.range (x.columns.length + 1)).map fun k => [.sl (intsT (rowP x y k 0))]
theorem tabT_len (x : Input) (y : List Int) : (tabT x y).length = x.columns.length + 1 := by simp [tabT]
theorem tabT_box (x : Input) (y : List Int) : boxC x y 0 = (tabT x y).flatten.map DV.v := by
  unfold boxC tabT
  generalize List.range (x.columns.length + 1) = l
  induction l with
  | nil => rfl
  | cons a l ih => simp only [List.map_cons, List.flatten_cons, List.map_append, ← ih]; simp
/-- What is known of a step. -/
theorem stp_ok {x : Input} {y : List Int} (hx : edOk x y) {i j : Nat} (hi : i ≤ x.columns.length) (hj : j ≤ y.length) {s : Stp} (hs : s ∈ stepsL x y i j) :
    ∃ a e : Nat, s.a = a ∧ s.e = e ∧ i + a ≤ x.columns.length ∧ j + e ≤ y.length ∧ (0 < a ∨ (a = 0 ∧ 0 < e)) ∧ 0 ≤ s.c ∧ s.c ≤ INF := by
  unfold stepsL sL3 sL2 at hs
  rw [List.mem_append, List.mem_append, List.mem_append] at hs
  rcases hs with ((hs | hs) | hs) | hs
  · unfold st1 at hs
    split at hs
    · rename_i hp
      simp only [List.mem_singleton] at hs
      subst hs
      obtain ⟨p1, p2, p3⟩ := hp
      refine ⟨1, 1, rfl, rfl, by omega, by omega, .inl (by omega), p3, ?_⟩
      have hy := hx.y j p2
      have hc := hx.rd (x.columns.getD i default) (by simp [List.getD, p1])
      exact hc.2 _ (getD_mem (by rw [hc.1]; omega))
    · simp at hs
  · unfold st2 at hs
    split at hs
    · rename_i hp
      simp only [List.mem_singleton] at hs
      subst hs
      exact ⟨1, 0, rfl, rfl, by omega, by omega, .inl (by omega), (hx.del i).1, (hx.del i).2⟩
    · simp at hs
  · unfold st3 at hs
    split at hs
    · rename_i hp
      simp only [List.mem_singleton] at hs
      subst hs
      exact ⟨0, 1, rfl, rfl, by omega, by omega, .inr ⟨rfl, by omega⟩, (hx.ins _).1, (hx.ins _).2⟩
    · simp at hs
  · unfold st4 at hs
    split at hs
    · rename_i hp
      simp only [List.mem_singleton] at hs
      subst hs
      have := swapOk_lt hp.1
      have := hp.2.1
      exact ⟨2, 2, rfl, rfl, by omega, by omega, .inl (by omega), hx.swap.1, hx.swap.2⟩
    · simp at hs
def foldB (x : Input) (y : List Int) (i j : Nat) (l : List Stp) : Int := l.foldl (fun b s => min b (min (s.c + ed x y (i + s.a.toNat) (j + s.e.toNat)) INF)) INF
theorem foldB_snoc (x : Input) (y : List Int) (i j : Nat) (l : List Stp) (s : Stp) : foldB x y i j (l ++ [s]) = min (foldB x y i j l) (min (s.c + ed x y (i + s.a.toNat) (j + s.e.toNat)) INF) := by simp [foldB]
def hdV (x : Input) (y : List Int) (i j : Nat) : List Stp → Int
  | [] => INF
  | s :: _ => min (s.c + ed x y (i + s.a.toNat) (j + s.e.toNat)) INF
theorem foldB_app (x : Input) (y : List Int) (i j : Nat) (l m : List Stp) (hm : m = [] ∨ ∃ s, m = [s]) : foldB x y i j (l ++ m) = min (foldB x y i j l) (hdV x y i j m) := by
  have htop : ∀ (l : List Stp) (b : Int), b ≤ INF → l.foldl (fun b s => min b (min (s.c + ed x y (i + s.a.toNat) (j + s.e.toNat)) INF)) b ≤ INF := by
    intro l
    induction l with
    | nil => intro b h; exact h
    | cons s l ih => intro b h; exact ih _ (Int.le_trans (Int.min_le_left _ _) h)
  rcases hm with rfl | ⟨s, rfl⟩
  · have := htop l INF (Int.le_refl _)
    simp only [List.append_nil, hdV]
    unfold foldB
    omega
  · exact foldB_snoc x y i j l s
theorem foldB_all {x : Input} {y : List Int} (hx : edOk x y) {i j : Nat} (h : ¬ (i = x.columns.length ∧ j = y.length)) : foldB x y i j (stepsL x y i j) = ed x y i j := by
  have one : ∀ {p : Prop} [Decidable p] (s : Stp), (if p then [s] else []) = [] ∨ ∃ t, (if p then [s] else []) = [t] := by
    intro p _ s
    split
    · exact .inr ⟨s, rfl⟩
    · exact .inl rfl
  have e : ed x y i j = min (min (min (min (bst x y i j 0) (stV x y i j 1)) (stV x y i j 2)) (stV x y i j 3)) (stV x y i j 4) := ed_eq x y i j
  rw [bst0, if_neg h] at e
  unfold stepsL sL3 sL2
  have o1 : st1 x y i j = [] ∨ ∃ s, st1 x y i j = [s] := by unfold st1; exact one _
  have o2 : st2 x i = [] ∨ ∃ s, st2 x i = [s] := by unfold st2; exact one _
  have o3 : st3 x y j = [] ∨ ∃ s, st3 x y j = [s] := by unfold st3; exact one _
  have o4 : st4 x y i j = [] ∨ ∃ s, st4 x y i j = [s] := by unfold st4; exact one _
  rw [foldB_app _ _ _ _ _ _ o4, foldB_app _ _ _ _ _ _ o3, foldB_app _ _ _ _ _ _ o2, ← List.nil_append (st1 x y i j), foldB_app _ _ _ _ _ _ o1, e]
  have e0 : foldB x y i j [] = INF := rfl
  rw [e0]
  have v1 : hdV x y i j (st1 x y i j) = stV x y i j 1 := by
    rw [stV1]; unfold st1; split <;> rfl
  have v2 : hdV x y i j (st2 x i) = stV x y i j 2 := by
    rw [stV2]; unfold st2
    by_cases q : i < x.columns.length
    · by_cases q2 : delAt x i < INF
      · rw [if_pos ⟨q, q2⟩, if_pos q]; rfl
      · rw [if_neg (fun h => q2 h.2), if_pos q]
        have := (hx.bound (i + 1) j).1
        simp only [hdV]
        omega
    · rw [if_neg (fun h => q h.1), if_neg q]; rfl
  have v3 : hdV x y i j (st3 x y j) = stV x y i j 3 := by
    rw [stV3]; unfold st3; split <;> rfl
  have v4 : hdV x y i j (st4 x y i j) = stV x y i j 4 := by
    rw [stV4]; unfold st4; split <;> rfl
  rw [v1, v2, v3, v4]
abbrev e56 : DM.Spec := specP (fun ts => ∃ (x : Input) (y : List Int) (i j : Nat), ts = [x.enc, .sl (intsT y), ti i, ti j] ∧ edOk x y ∧ i ≤ x.columns.length ∧ j ≤ y.length)
  (fun | [x, .sl y, .int _ i, .int _ j] => .sl (stpsT (stepsL (decX x) (decInts y) i.toNat j.toNat)) | _ => .bool false) false
theorem ok44 : EnvOk Try.prog (envOf [(56, e56), (57, e72)]) := by
  refine EnvOk.cons (EnvOk.cons EnvOk.nil ?_) ?_
  · rintro ts ⟨a, b, rfl, h1, h2⟩
    exact ⟨by simpa using t57 a b h1 h2, fun _ => rfl⟩
  · rintro ts ⟨x, y, i, j, rfl, h1, h2, h3⟩
    exact ⟨by simpa using t56 x y i j h1 h2 h3, fun h => by cases h⟩
theorem foldB_bound (x : Input) (y : List Int) (hx : edOk x y) {i j : Nat} (hi : i ≤ x.columns.length) (hj : j ≤ y.length) : ∀ l : Nat, 0 ≤ foldB x y i j ((stepsL x y i j).take l) ∧ foldB x y i j ((stepsL x y i j).take l) ≤ INF
  | 0 => by simp [foldB, INF]
  | l + 1 => by
    have ih := foldB_bound x y hx hi hj l
    rw [List.take_add_one]
    cases h : (stepsL x y i j)[l]? with
    | none => simpa using ih
    | some s =>
      simp only [Option.toList_some]
      rw [foldB_snoc]
      obtain ⟨a, e, _, _, _, _, _, h1, h2⟩ := stp_ok hx hi hj (List.mem_of_getElem? h)
      have := (hx.bound (i + s.a.toNat) (j + s.e.toNat)).1
      simp only [INF] at *
      omega
set_option maxRecDepth 20000 in
set_option maxHeartbeats 8000000 in
theorem t44 (x : Input) (y : List Int) (hx : edOk x y) : CallsOk Try.prog 44 [x.enc, .sl (intsT y)] (.sl (tabT x y)) := by
  have hΓ := ok44
  have hI : INF = 1099511627776 := rfl
  have hn := hx.n
  have hm := hx.m
  refine c44.ok (by simp) (initSt_sat ?_)
  simp [Input.enc]
  refine SatD.regSeq hΓ follows [1, 2] ?_
  simp [d44r0]
  refine SatD.le (Le.keep (o := []) (l := [(1, .v (.sl (intsT y))), (2, .v (.box [.sl (colsT x.columns), .sl (intsT x.insert), ti x.swap]))]) (nxt' := 1200) ?_ ?_ ?_ ?_) ?_
  · simp
  · simp
  · simp
  · simp
  obtain ⟨n, hnn⟩ : ∃ n, x.columns.length = n := ⟨_, rfl⟩
  obtain ⟨m, hmm⟩ : ∃ m, y.length = m := ⟨_, rfl⟩
  refine SatD.regSeq hΓ follows [1, 2, 5, 6] ?_
  simp [d44r1, hnn, hmm]
  obtain ⟨n1, hn1⟩ : ∃ n1, n + 1 = n1 := ⟨_, rfl⟩
  have w2 : IntKind.i64.wrap ((n : Int) + 1) = (n1 : Int) := by rw [← hn1]; exact_mod_cast wrapN (n := n + 1) (by omega)
  have hbt := boxC_top (x := x) (y := y) (c := n1) (by rw [hnn, hn1])
  refine SatD.regASeq hΓ follows (rs := d44r2S) (.inr ⟨_, rfl⟩) (by kernel_rfl) [1, 2, 5, 6, 7] ?_
  simp [d44r2S, w2, roomOk, hbt]
  refine ⟨⟨by omega, by omega⟩, ?_⟩
  refine SatD.seq ?_
  refine SatD.regSeq hΓ follows [1, 2, 5, 6, 7, 8] ?_
  simp [d44r3]
  refine SatD.block ?_
  refine SatD.loop (fun i : Nat => ⟨DM.look [(1, .v (.sl (intsT y))), (2, .v (.box [.sl (colsT x.columns), .sl (intsT x.insert), ti x.swap])), (5, .v (ti n)), (6, .v (ti m)), (7, .bsl 1304 n1), (8, .v (ti ((i : Int) - 1)))], obs [(1304, .box (boxC x y i))], 2000, 1000, []⟩)
    (fun i => i ≤ n1) (fun i => i) n1 (Le.keep ?_ ?_ ?_ ?_) (by simp) (fun i hi => ?_)
  · simp
  · simp
  · simp [-corOb, corOb_box]
    exact corDs_of rfl fun k d d' h1 h2 => by rw [h1] at h2; cases h2; exact corC_self h1
  · simp
    omega
  refine SatD.seq ?_
  refine SatD.regSeq hΓ follows [1, 2, 5, 6, 7, 8, 23] ?_
  simp [d44r4]
  refine SatD.cond rfl (fun hcc => ?_) (fun hcc => ?_)
  · simp at hcc
    obtain ⟨q, rfl⟩ : ∃ q, i = q + 1 := ⟨i - 1, by omega⟩
    have hqn : q ≤ n := by omega
    refine SatD.skip ?_
    simp
    refine SatD.seq ?_
    refine SatD.block ?_
    have w3 : IntKind.i64.wrap ((m : Int) + 1) = ((m + 1 : Nat) : Int) := by exact_mod_cast wrapN (n := m + 1) (by omega)
    have hbe := boxI_eq (x := x) (y := y) (q := q) (A := 2114) (by omega)
    have hbl := boxC_len x y (q + 1)
    rw [hnn] at hbl
    have hrz := rowP_zero (x := x) (y := y) (i := q) (c := m + 1) (by omega)
    have hqn1 : q < n1 := by omega
    refine SatD.regSeq hΓ follows [1, 2, 5, 6, 7, 8] ?_
    simp [d44r5, w3, roomOk, hbe, hbl, hqn1, hqn, boxable]
    refine ⟨⟨by omega, by omega, by omega⟩, ?_⟩
    refine SatD.regSeq hΓ follows [1, 2, 5, 6, 7, 8, 9] ?_
    simp [d44r6]
    refine SatD.block ?_
    refine SatD.loop (fun j : Nat => ⟨DM.look [(1, .v (.sl (intsT y))), (2, .v (.box [.sl (colsT x.columns), .sl (intsT x.insert), ti x.swap])), (5, .v (ti n)), (6, .v (ti m)), (7, .bsl 1304 n1), (8, .v (ti q)), (9, .v (ti ((j : Int) - 1)))], obs [(1304, .box (boxI x y q 2114)), (2114, .arr 0 3 1 (intsT (rowP x y q j)))], 3000, 1000, []⟩)
      (fun j => j ≤ m + 1) (fun j => j) (m + 1) (Le.keep ?_ ?_ ?_ ?_) (by simp) (fun j hj => ?_)
    · simp
    · simp
    · simp [-corOb, corOb_box, hrz, corOb_arr]
      exact corI_self (by simp)
    · simp
    refine SatD.seq ?_
    refine SatD.regSeq hΓ follows [1, 2, 5, 6, 7, 8, 9, 34] ?_
    simp [d44r7]
    refine SatD.cond rfl (fun hcc => ?_) (fun hcc => ?_)
    · simp at hcc
      obtain ⟨r, rfl⟩ : ∃ r, j = r + 1 := ⟨j - 1, by omega⟩
      have hrm : r ≤ m := by omega
      refine SatD.skip ?_
      simp
      refine SatD.seq ?_
      refine SatD.block ?_
      refine SatD.seq ?_
      refine SatD.regToS hΓ follows [(1, .v (.sl (intsT y))), (2, .v (.box [.sl (colsT x.columns), .sl (intsT x.insert), ti x.swap])), (5, .v (ti n)), (6, .v (ti m)), (7, .bsl 1304 n1), (8, .v (ti q)), (9, .v (ti r)), (44, .v (.bool (decide (q = n ∧ r = m))))] ?_ ?_
      · by_cases q1 : q = n
        · by_cases q2 : r = m
          · simp [d44r8, q1, q2]
          · have q2' : ¬ (r : Int) = m := by omega
            simp [d44r8, q1, q2, q2']
        · have q1' : ¬ (q : Int) = n := by omega
          simp [d44r8, q1, q1']
      refine SatD.cond rfl (fun h8 => ?_) (fun h8 => ?_)
      · simp only [decide_eq_true_eq] at h8
        obtain ⟨rfl, rfl⟩ := h8
        have hrw : rowP x y q (r + 1) = rowP x y q r := by rw [← hnn, ← hmm]; exact rowP_end hx.nn
        refine SatD.exit ?_
        simp
        refine SatD.reg hΓ follows [1, 2, 5, 6, 7, 8, 9] ?_
        simp [d44r16]
        rw [wrap_id (by omega)]
        refine ⟨r, Le.keep ?_ ?_ ?_ ?_, by omega, by omega⟩
        · simp
        · simp
        · simp [-corOb, corOb_box, corOb_arr, set_ints, hrw]
          exact corI_self (by simp)
        · simp
      · simp only [decide_eq_false_iff_not] at h8
        refine SatD.skip ?_
        simp
        refine SatD.regSeq hΓ follows [1, 2, 5, 6, 7, 8, 9, 10] ?_
        simp [d44r9]
        refine SatD.seq ?_
        obtain ⟨xt, hxt⟩ : ∃ xt, x.enc = xt := ⟨_, rfl⟩
        have hxe : T.agg [.sl (colsT x.columns), .sl (intsT x.insert), ti x.swap] = xt := hxt
        have hxd : decX xt = x := by rw [← hxt]; simp
        obtain ⟨L, hLL⟩ : ∃ L, stepsL x y q r = L := ⟨_, rfl⟩
        have hL4 := stepsL_len x y q r
        rw [hLL] at hL4
        have hpre : ∃ (x2 : Input) (y2 : List Int) (i j : Nat), (xt = x2.enc ∧ intsT y = intsT y2 ∧ (q : Int) = i ∧ (r : Int) = j) ∧ edOk x2 y2 ∧ i ≤ x2.columns.length ∧ j ≤ y2.length := ⟨x, y, q, r, ⟨hxt.symm, rfl, rfl, rfl⟩, hx, by omega, by omega⟩
        refine SatD.regSeq hΓ follows [1, 2, 5, 6, 7, 8, 9, 10, 49, 50, 51] ?_
        simp [d44r10, hxe, hxd, hLL]
        refine ⟨hpre, ?_⟩
        refine SatD.block ?_
        refine SatD.loop (fun l : Nat => ⟨DM.look [(1, .v (.sl (intsT y))), (2, .v (.box [.sl (colsT x.columns), .sl (intsT x.insert), ti x.swap])), (5, .v (ti n)), (6, .v (ti m)), (7, .bsl 1304 n1), (8, .v (ti q)), (9, .v (ti r)), (10, .v (ti (foldB x y q r (L.take l)))), (49, .v (.sl (stpsT L))), (50, .v (ti L.length)), (51, .v (ti l))], obs [(1304, .box (boxI x y q 2114)), (2114, .arr 0 3 1 (intsT (rowP x y q (r + 1))))], 4000, 1000, []⟩)
          (fun l => l ≤ L.length) (fun l => L.length - l) 0 (Le.keep ?_ ?_ ?_ ?_) (by simp) (fun l hl => ?_)
        · simp
        · simp
        · simp [-corOb, corOb_box, corOb_arr]
          exact corI_self (by simp)
        · simp [foldB]
        refine SatD.regSeq hΓ follows [1, 2, 5, 6, 7, 8, 9, 10, 49, 50, 51, 52] ?_
        simp [d44r11]
        refine SatD.seq ?_
        refine SatD.cond rfl (fun hcc => ?_) (fun hcc => ?_)
        · simp at hcc
          have r1 := rowAt_stps hcc
          obtain ⟨s, hs⟩ : ∃ s, L.getD l default = s := ⟨_, rfl⟩
          rw [hs] at r1
          have hmem : L[l]? = some s := by rw [← hs]; simp [List.getD, hcc]
          obtain ⟨a, e, ha, he, hia, hje, hae, hc0, hc1⟩ := stp_ok hx (i := q) (j := r) (by omega) (by omega) (s := s) (by rw [hLL]; exact List.mem_of_getElem? hmem)
          have hfs : foldB x y q r (L.take (l + 1)) = min (foldB x y q r (L.take l)) (min (s.c + ed x y (q + a) (r + e)) INF) := by
            rw [List.take_add_one, hmem, Option.toList_some, foldB_snoc, ha, he, Int.toNat_natCast, Int.toNat_natCast]
          obtain ⟨sk, st, sc, sa, se⟩ := s
          simp only at ha he hc0 hc1 hfs
          subst ha he
          refine SatD.skip ?_
          simp
          refine SatD.seq ?_
          refine SatD.block ?_
          refine SatD.regSeq hΓ follows [1, 2, 5, 6, 7, 8, 9, 10, 12, 49, 50, 51] ?_
          simp [d44r12, r1, hcc, Stp.enc]
          refine SatD.le (Le.keep (o := [(1304, .box (boxI x y q 2114)), (2114, .arr 0 3 1 (intsT (rowP x y q (r + 1))))]) (l := [(1, .v (.sl (intsT y))), (2, .v (.box [.sl (colsT x.columns), .sl (intsT x.insert), ti x.swap])), (5, .v (ti n)), (6, .v (ti m)), (7, .bsl 1304 n1), (8, .v (ti q)), (9, .v (ti r)), (10, .v (ti (foldB x y q r (L.take l)))), (12, .v (.box [ti sk, ti st, ti sc, ti a, ti e])), (49, .v (.sl (stpsT L))), (50, .v (ti L.length)), (51, .v (ti l))]) (nxt' := 5000) ?_ ?_ ?_ ?_) ?_
          · simp
          · simp
          · simp [-corOb, corOb_box, corOb_arr]
            exact corI_self (by simp)
          · simp
          obtain ⟨q2, hq2⟩ : ∃ q2, q + a = q2 := ⟨_, rfl⟩
          obtain ⟨r2, hr2⟩ : ∃ r2, r + e = r2 := ⟨_, rfl⟩
          rw [hq2] at hia hfs
          rw [hr2] at hje hfs
          have w4 : IntKind.i64.wrap ((q : Int) + (a : Int)) = (q2 : Int) := by rw [← hq2]; exact_mod_cast wrapN (n := q + a) (by omega)
          have w5 : IntKind.i64.wrap ((r : Int) + (e : Int)) = (r2 : Int) := by rw [← hr2]; exact_mod_cast wrapN (n := r + e) (by omega)
          have hbat := boxI_at (x := x) (y := y) (q := q) (A := 2114) (k := q2) (by omega)
          have hbl2 := boxI_len x y q 2114
          rw [hnn] at hbl2
          have hq2n : q2 < n1 := by omega
          have hq2n' : q2 ≤ n := by omega
          have hfb := foldB_bound x y hx (i := q) (j := r) (by omega) (by omega) l
          rw [hLL] at hfb
          have heb := hx.bound q2 r2
          have hrl := rowP_len x y q (r + 1)
          have hrl2 := rowP_len x y q2 0
          obtain ⟨ev, hev⟩ : ∃ ev, ed x y q2 r2 = ev := ⟨_, rfl⟩
          rw [hev] at heb hfs
          refine SatD.regToN hΓ follows [(1, .v (.sl (intsT y))), (2, .v (.box [.sl (colsT x.columns), .sl (intsT x.insert), ti x.swap])), (5, .v (ti n)), (6, .v (ti m)), (7, .bsl 1304 n1), (8, .v (ti q)), (9, .v (ti r)), (10, .v (ti (foldB x y q r (L.take (l + 1))))), (49, .v (.sl (stpsT L))), (50, .v (ti L.length)), (51, .v (ti l))] ?_ ?_
          · rw [hfs]
            by_cases hq0 : q2 = q
            · have hr2g := rowP_get (x := x) (y := y) (i := q) (c := r + 1) (k := r2) (by omega) (by omega)
              have hra := rowAt_ints (l := rowP x y q (r + 1)) (y := r2) (by rw [hrl]; omega)
              rw [hr2g, ← hq0, hev] at hra
              rw [if_pos hq0] at hbat
              subst hq0
              simp [d44r13, w4, w5, hbat, hbl2, hq2n, hq2n', hrl, hra, show r2 < y.length + 1 by omega]
              exact ⟨by omega, _, _, ⟨rfl, rfl⟩, by omega, by omega⟩
            · rw [if_neg hq0, if_pos (by omega)] at hbat
              have hr2g := rowP_get (x := x) (y := y) (i := q2) (c := 0) (k := r2) (by omega) (by omega)
              have hra := rowAt_ints (l := rowP x y q2 0) (y := r2) (by rw [hrl2]; omega)
              rw [hr2g, hev] at hra
              simp [d44r13, w4, w5, hbat, hbl2, hq2n, hq2n', hrl2, hra, show r2 < y.length + 1 by omega]
              exact ⟨by omega, _, _, ⟨rfl, rfl⟩, by omega, by omega⟩
          refine SatD.reg hΓ follows [1, 2, 5, 6, 7, 8, 9, 10, 49, 50, 51] ?_
          simp [d44r14]
          rw [wrap_id (by omega)]
          refine ⟨l + 1, Le.keep ?_ ?_ ?_ ?_, by omega, by omega⟩
          · simp
          · simp
          · simp [-corOb, corOb_box, corOb_arr]
            exact corI_self (by simp)
          · simp [hfs]
        · simp at hcc
          refine SatD.exit ?_
          simp
          have hl : l = L.length := by omega
          subst hl
          rw [List.take_length, ← hLL, foldB_all hx (by omega)]
          have hbat := boxI_at (x := x) (y := y) (q := q) (A := 2114) (k := q) (by omega)
          rw [if_pos rfl] at hbat
          have hbl2 := boxI_len x y q 2114
          rw [hnn] at hbl2
          have hq2n : q < n1 := by omega
          have hrl := rowP_len x y q (r + 1)
          have hra := rowAt_ints (l := rowP x y q (r + 1)) (y := r) (by rw [hrl]; omega)
          have hrw := rowP_set (x := x) (y := y) (i := q) (c := r) (by omega)
          refine SatD.reg hΓ follows [1, 2, 5, 6, 7, 8, 9] ?_
          simp [d44r15, hbat, hbl2, hq2n, hqn, hrl, hra, show r < y.length + 1 by omega]
          refine ⟨by omega, ?_⟩
          refine SatD.reg hΓ follows [1, 2, 5, 6, 7, 8, 9] ?_
          simp [d44r16]
          rw [wrap_id (by omega)]
          refine ⟨r, Le.keep ?_ ?_ ?_ ?_, by omega, by omega⟩
          · simp
          · simp
          · simp [-corOb, corOb_box, corOb_arr, set_ints, hrw]
            exact corI_self (by simp)
          · simp
    · simp at hcc
      have hj0 : j = 0 := by omega
      subst hj0
      refine SatD.exit ?_
      simp
      refine SatD.reg hΓ follows [1, 2, 5, 6, 7, 8] ?_
      simp [d44r17]
      rw [wrap_id (by omega)]
      refine ⟨q, Le.keep ?_ ?_ ?_ ?_, by omega, by omega⟩
      · simp
      · simp
      · simp [-corOb, corOb_box]
        exact cor_boxes (by simp) (by intro r hr; simp [obs_cons] at hr; simp; omega)
      · simp
  · simp at hcc
    have hi0 : i = 0 := by omega
    subst hi0
    refine SatD.exit ?_
    simp
    rw [tabT_box]
    refine SatD.le (Le.keep (o := []) (l := [(7, .v (.sl (tabT x y)))]) (nxt' := 6000) ?_ ?_ ?_ ?_) ?_
    · simp
    · simp
    · simp
    · simp
      exact ⟨by rw [tabT_len]; omega, 1, fun r hr => by obtain ⟨k, _, rfl⟩ := List.mem_map.1 hr; rfl⟩
    refine SatD.regSeq hΓ follows [4] ?_
    simp [d44r18]
    refine SatD.ret ?_
    simp [d44res]

abbrev e43 : DM.Spec := specP (fun ts => ∃ (x : Input) (y : List Int), ts = [x.enc, .sl (intsT y)] ∧ belowP y x.insert.length ∧ y.length ≤ 1000000000) (fun _ => .bool true) true
abbrev e44 : DM.Spec := specP (fun ts => ∃ (x : Input) (y : List Int), ts = [x.enc, .sl (intsT y)] ∧ edOk x y) (fun | [x, .sl y] => .sl (tabT (decX x) (decInts y)) | _ => .bool false) false
theorem ok25 : EnvOk Try.prog (envOf [(43, e43), (44, e44)]) := by
  refine EnvOk.cons (EnvOk.cons EnvOk.nil ?_) ?_
  · rintro ts ⟨x, y, rfl, h⟩
    exact ⟨by simpa using t44 x y h, fun h => by cases h⟩
  · rintro ts ⟨x, y, rfl, h1, h2⟩
    exact ⟨t43 x y h1 h2, fun _ => rfl⟩
set_option maxRecDepth 20000 in
set_option maxHeartbeats 8000000 in
theorem t25 (x : Input) (y : List Int) (hx : edOk x y) : CallsOk Try.prog 25 [x.enc, .sl (intsT y)] (ti (ed x y 0 0)) := by
  have hΓ := ok25
  refine c25.ok (by simp) (initSt_sat ?_)
  simp [Input.enc]
  refine SatD.regSeq hΓ follows [1, 2] ?_
  simp [d25r0]
  refine SatD.le (Le.keep (o := []) (l := [(1, .v (.sl (intsT y))), (2, .v (.box [.sl (colsT x.columns), .sl (intsT x.insert), ti x.swap]))]) (nxt' := 1200) ?_ ?_ ?_ ?_) ?_
  · simp
  · simp
  · simp
  · simp
  refine SatD.seq ?_
  obtain ⟨xt, hxt⟩ : ∃ xt, x.enc = xt := ⟨_, rfl⟩
  have hxe : T.agg [.sl (colsT x.columns), .sl (intsT x.insert), ti x.swap] = xt := hxt
  have hxd : decX xt = x := by rw [← hxt]; simp
  have hpre : ∃ (x2 : Input) (y2 : List Int), (xt = x2.enc ∧ intsT y = intsT y2) ∧ belowP y2 x2.insert.length ∧ y2.length ≤ 1000000000 := ⟨x, y, ⟨hxt.symm, rfl⟩, hx.below, by have := hx.m; omega⟩
  refine SatD.regSeq hΓ follows [1, 2, 8] ?_
  simp [d25r1, hxe, hxd]
  refine ⟨hpre, ?_⟩
  refine SatD.cond rfl (fun hcc => by cases hcc) (fun hcc => ?_)
  refine SatD.skip ?_
  simp
  have hlen := tabT_len x y
  have hpos : 0 < (tabT x y).length := by rw [hlen]; omega
  have hr0 : DM.rowAt (tabT x y) 0 = [.sl (intsT (rowP x y 0 0))] := by simp [DM.rowAt, tabT]
  have hl2 := rowP_len x y 0 0
  have hpos2 : 0 < (rowP x y 0 0).length := by rw [hl2]; omega
  have hr1 := rowAt_ints hpos2
  have hg := rowP_get (x := x) (y := y) (i := 0) (c := 0) (k := 0) (by omega) (by omega)
  rw [hg] at hr1
  obtain ⟨RL, hRL⟩ : ∃ l, rowP x y 0 0 = l := ⟨_, rfl⟩
  rw [hRL] at hr0 hr1 hpos2
  obtain ⟨TL, hTL⟩ : ∃ l, tabT x y = l := ⟨_, rfl⟩
  rw [hTL] at hpos hr0
  obtain ⟨e, he⟩ : ∃ e, ed x y 0 0 = e := ⟨_, rfl⟩
  rw [he] at hr1
  rw [he]
  have hr1 : DM.rowAt (intsT RL) 0 = [ti e] := hr1
  have hpre2 : ∃ (x2 : Input) (y2 : List Int), (xt = x2.enc ∧ intsT y = intsT y2) ∧ edOk x2 y2 := ⟨x, y, ⟨hxt.symm, rfl⟩, hx⟩
  refine SatD.regSeq hΓ follows [4] ?_
  simp [d25r3, hxe, hxd, hTL, hr0, hpos, hr1, hpos2]
  refine ⟨hpre2, ?_⟩
  refine SatD.ret ?_
  simp [d25res]

theorem fair_ed {x : Input} {k : Int} (h : fairP x k) {y : List Int} (hy : belowP y x.insert.length) (hl : y.length ≤ 1000) : edOk x y := by
  obtain ⟨g1, g2, g3, g4⟩ := fair_ok h
  have hn := fair_nn h
  refine ⟨g2, hl, fun j hj => belowP_at hy hj, fun c hc => ⟨g4 c hc, (g1.2.1 c hc).2⟩, fun i => ⟨hn.del i, ?_⟩, fun t => ⟨hn.ins t, ?_⟩, ⟨g1.2.2.2.2.1, g1.2.2.2.2.2⟩⟩
  · unfold delAt
    by_cases hi : i < x.columns.length
    · exact (g1.1.2 (x.columns.getD i default) (by simp [List.getD, hi])).2
    · rw [List.getD, List.getElem?_eq_none (by omega)]; exact (by decide : (0 : Int) ≤ INF)
  · unfold insAt
    by_cases ht : t < x.insert.length
    · exact (g1.2.2.2.1 _ (getD_mem ht)).2
    · rw [List.getD, List.getElem?_eq_none (by omega)]; exact (by decide : (0 : Int) ≤ INF)
abbrev e24 : DM.Spec := specP (fun ts => ∃ (x : Input) (y : List Int), ts = [x.enc, .sl (intsT y)] ∧ edOk x y) (fun | [x, .sl y] => ti (ed (decX x) (decInts y) 0 0) | _ => .bool false) true
theorem ok9b : EnvOk Try.prog (envOf [(10, g10), (11, g11), (12, g12), (17, g17), (18, gD), (24, e24), (25, e24)]) := by
  refine EnvOk.cons (EnvOk.cons (EnvOk.cons (EnvOk.cons (EnvOk.cons (EnvOk.cons (EnvOk.cons EnvOk.nil ?_) ?_) ?_) ?_) ?_) ?_) ?_
  · rintro ts ⟨x, y, rfl, h⟩
    exact ⟨by simpa using t25 x y h, fun _ => rfl⟩
  · rintro ts ⟨x, y, rfl, h⟩
    exact ⟨by simpa using t24 x y h, fun _ => rfl⟩
  · rintro ts ⟨l, y, t, rfl, h1, h2, h3⟩
    exact ⟨by simpa using t18 l y t h1 h2.1 h2.2 h3, fun _ => rfl⟩
  · rintro ts ⟨y, t, rfl, h⟩
    exact ⟨by simpa using t17 y t (by omega), fun _ => rfl⟩
  · rintro ts ⟨x, k, rfl, h⟩
    exact ⟨by simpa using fair_build h, fun h => by cases h⟩
  · rintro ts ⟨x, k, rfl⟩
    exact ⟨by simpa using t11 x k, fun _ => rfl⟩
  · rintro ts rfl
    exact ⟨t10, fun _ => rfl⟩
set_option maxRecDepth 20000 in
set_option maxHeartbeats 8000000 in
theorem t9 (x : Input) (y : List Int) (hy : y.length ≤ 9223372036854775807) : CallsOk Try.prog 9 [x.enc, .sl (intsT y)] (.bool true) := by
  have hΓ := ok9b
  obtain ⟨cols, ins, sw⟩ := x
  obtain ⟨xt, hxt⟩ : ∃ t, (⟨cols, ins, sw⟩ : Input).enc = t := ⟨_, rfl⟩
  have hxe : T.agg [.sl (colsT cols), .sl (intsT ins), ti sw] = xt := hxt
  have hxd : decX xt = ⟨cols, ins, sw⟩ := by rw [← hxt]; simp
  refine c9.ok (by simp) (initSt_sat ?_)
  simp [Input.enc]
  refine SatD.regSeq hΓ follows [1, 2] ?_
  simp [d9r0]
  refine SatD.le (Le.keep (o := []) (l := [(1, .v (.sl (intsT y))), (2, .v (.box [.sl (colsT cols), .sl (intsT ins), ti sw]))]) (nxt' := 1200) ?_ ?_ ?_ ?_) ?_
  · simp
  · simp
  · simp
  · simp
  refine SatD.seq ?_
  refine SatD.regSeq hΓ follows [1, 2, 7] ?_
  simp [d9r1]
  refine SatD.cond rfl (fun hcc => by cases hcc) (fun hcc => ?_)
  refine SatD.skip ?_
  simp
  refine SatD.seq ?_
  obtain ⟨c1, hc1⟩ : ∃ c : Bool, decide (¬ fairP ⟨cols, ins, sw⟩ 6 ∨ 8 < (y.length : Int) ∨ ¬ belowP y ins.length) = c := ⟨_, rfl⟩
  refine SatD.regToS hΓ follows [(1, .v (.sl (intsT y))), (2, .v (.box [.sl (colsT cols), .sl (intsT ins), ti sw])), (23, .v (.bool c1))] ?_ ?_
  · by_cases q1 : fairP ⟨cols, ins, sw⟩ 6
    · by_cases q3 : 8 < (y.length : Int)
      · have : c1 = true := by rw [← hc1]; simp [q3]
        simp [d9r3, hxe, hxd, q1, q3, this]
        exact ⟨_, hxt.symm⟩
      · by_cases q4 : belowP y ins.length
        · have : c1 = false := by rw [← hc1]; simp only [decide_eq_false_iff_not]; rintro (h | h | h) <;> contradiction
          simp [d9r3, hxe, hxd, q1, q3, q4, this]
          exact ⟨⟨_, hxt.symm⟩, y, rfl, by omega⟩
        · have : c1 = true := by rw [← hc1]; simp [q4]
          simp [d9r3, hxe, hxd, q1, q3, q4, this]
          exact ⟨⟨_, hxt.symm⟩, y, rfl, by omega⟩
    · have : c1 = true := by rw [← hc1]; simp [q1]
      simp [d9r3, hxe, hxd, q1, this]
      exact ⟨_, hxt.symm⟩
  refine SatD.cond rfl (fun h1 => ?_) (fun h1 => ?_)
  · skip
    refine SatD.regSeq hΓ follows [4] ?_
    simp [d9r4]
    refine SatD.ret ?_
    simp [d9res]
  · rw [h1] at hc1
    simp only [decide_eq_false_iff_not, not_or, Classical.not_not] at hc1
    obtain ⟨hf, hy8, hbl⟩ := hc1
    refine SatD.skip ?_
    simp
    have hv := ref_valid hf
    have hlo := fair_lens hf
    have hed := fair_ed hf hbl (by omega)
    have hde := dist_ed hf (y := y) (fun t ht => by
      obtain ⟨j, hj, rfl⟩ := List.getElem_of_mem ht
      have := hbl j hj
      rw [show y.getD j default = y[j] by simp [List.getD, hj]] at this
      omega)
    obtain ⟨l, hl⟩ : ∃ l, refBuildL ⟨cols, ins, sw⟩ = l := ⟨_, rfl⟩
    rw [hl] at hv hlo hde
    obtain ⟨d, hd⟩ : ∃ d, ed ⟨cols, ins, sw⟩ y 0 0 = d := ⟨_, rfl⟩
    rw [hd] at hde
    refine SatD.regSeq hΓ follows [1, 2, 5] ?_
    simp [d9r5, hxe, hxd, hl, hde]
    refine ⟨⟨_, hxt.symm, 6, hf⟩, ⟨l, y, ⟨rfl, rfl⟩, ⟨_, hv⟩, ⟨hlo.1, hlo.2.1⟩, by omega⟩, ?_⟩
    have hpre2 : ∃ (x2 : Input) (y2 : List Int), (xt = x2.enc ∧ intsT y = intsT y2) ∧ edOk x2 y2 := ⟨_, y, ⟨hxt.symm, rfl⟩, hed⟩
    refine SatD.regToS hΓ follows [(4, .v (.bool true))] ?_ ?_
    · simp [d9r6, hxe, hxd, hd]
      exact hpre2
    refine SatD.ret ?_
    simp [d9res]
end Go.Proofs
