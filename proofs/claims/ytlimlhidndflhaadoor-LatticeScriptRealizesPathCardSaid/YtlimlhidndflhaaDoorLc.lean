/- Script. Conditions: none. -/
import Derived.Test.YtlimlhidndflhaaDoorLb
import Derived.Test.YtlimlhidndflhaaDoorJa
import Derived.Test.YtlimlhidndflhaaDoorMe
import Derived.Test.YtlimlhidndflhaaDoorJ7
import Derived.KernelRfl
namespace Go.Proofs
open Go.DM
set_option linter.unusedSimpArgs false
set_option linter.unusedVariables false

def stepW (arcs : List Arc) : Option (Int × List (Int × Int)) → Int → Option (Int × List (Int × Int))
  | none, _ => none
  | some (s, out), i => if i < 0 ∨ (arcs.length : Int) ≤ i ∨ (arcs.getD i.toNat default).f ≠ s then none else some ((arcs.getD i.toNat default).t, out ++ (arcs.getD i.toNat default).ops)
def walkL (arcs : List Arc) (path : List Int) : Option (Int × List (Int × Int)) := path.foldl (stepW arcs) (some (0, []))
/-- The operations of a path, and what Script says of it. -/
def scriptL (n : Nat) (l : Lattice) (path : List Int) : List (Int × Int) × Int :=
  match walkL l.arcs path with
  | none => ([], 1)
  | some (s, out) => if 1099511627776 ≤ l.final.getD s.toNat default then ([], 1) else (out ++ dels ((n : Int) - s / 2).toNat, 0)
theorem fold_none (arcs : List Arc) (l : List Int) : l.foldl (stepW arcs) none = none := by
  induction l with
  | nil => rfl
  | cons i l ih => exact ih
theorem walk_succ {arcs : List Arc} {path : List Int} {j : Nat} (h : j < path.length) : walkL arcs (path.take (j + 1)) = stepW arcs (walkL arcs (path.take j)) (path.getD j default) := by
  unfold walkL
  rw [List.take_add_one, List.getElem?_eq_getElem h, List.foldl_append]
  simp [List.getD, h]
theorem walk_none {arcs : List Arc} {path : List Int} {j : Nat} (h : walkL arcs (path.take j) = none) : walkL arcs path = none := by
  have : walkL arcs path = (path.drop j).foldl (stepW arcs) (walkL arcs (path.take j)) := by
    unfold walkL
    rw [← List.foldl_append, List.take_append_drop]
  rw [this, h, fold_none]
/-- Do the arcs lead from state to state, with not too many operations? -/
def arcsFit (S : Nat) (arcs : List Arc) : Prop := ∀ a ∈ arcs, 0 ≤ a.f ∧ a.f < S ∧ 0 ≤ a.t ∧ a.t < S ∧ a.ops.length ≤ 1000000

structure PW where
  (j s : Nat)
  out : List (Int × Int)

set_option maxRecDepth 20000 in
set_option maxHeartbeats 8000000 in
theorem t20 (x : Input) (l : Lattice) (path : List Int) (hfit : arcsFit l.final.length l.arcs) (hS0 : 0 < l.final.length) (h0 : x.columns.length ≤ 1000000) (h1 : l.final.length ≤ 1000000) (h2 : l.arcs.length ≤ 1000000000) (h3 : path.length ≤ 1000) :
    CallsOk Tryd.prog 11 [x.enc, l.enc, .sl (intsT path)] (.tup [.sl (opsT (scriptL x.columns.length l path).1), ti (scriptL x.columns.length l path).2]) := by
  have hΓ := okE
  obtain ⟨s0, arcs, fin⟩ := l
  obtain ⟨R, hR⟩ : ∃ R, scriptL x.columns.length ⟨s0, arcs, fin⟩ path = R := ⟨_, rfl⟩
  rw [hR]
  simp only [scriptL] at hR
  simp only at hfit hS0 h1 h2
  refine c20.ok (by simp) (initSt_sat ?_)
  simp [Lattice.enc, Input.enc]
  refine SatD.regSeq hΓ follows [2, 3, 4] ?_
  simp [d20r0]
  refine SatD.le (Le.keep (o := []) (l := [(2, .v (.sl (intsT path))), (3, .v (.box [.sl (colsT x.columns), .sl (intsT x.insert), ti x.swap])), (4, .v (.box [ti s0, .sl (arcsT arcs), .sl (intsT fin)]))]) (nxt' := 1200) ?_ ?_ ?_ ?_) ?_
  · simp
  · simp
  · simp
  · simp
  refine SatD.regSeq hΓ follows [2, 3, 4, 8] ?_
  simp [d20r1]
  refine SatD.regSeq hΓ follows [2, 3, 4, 8, 9] ?_
  simp [d20r2]
  refine SatD.seq ?_
  refine SatD.regSeq hΓ follows [3, 4, 8, 9, 12, 13, 14] ?_
  simp [d20r3]
  refine SatD.le (Le.nilSlot (k := 9) 53 (sz := 2) (by omega) (by simp)) ?_
  rw [obs_setO]
  obtain ⟨L, hL⟩ : ∃ L, path.length = L := ⟨_, rfl⟩
  rw [hL] at h3 ⊢
  refine SatD.block ?_
  refine SatD.loop (fun p : PW => ⟨DM.look [(3, .v (.box [.sl (colsT x.columns), .sl (intsT x.insert), ti x.swap])), (4, .v (.box [ti s0, .sl (arcsT arcs), .sl (intsT fin)])), (8, .v (ti p.s)), (9, .aref 1419 0), (12, .v (.sl (intsT path))), (13, .v (ti L)), (14, .v (ti p.j))], obs [(1419, .arr 0 53 2 (opsT p.out))], 2000, 1000, []⟩)
    (fun p => p.j ≤ L ∧ p.s < fin.length ∧ p.out.length ≤ p.j * 1000000 ∧ walkL arcs (path.take p.j) = some ((p.s : Int), p.out)) (fun p => L - p.j) ⟨0, 0, []⟩ (Le.keep ?_ ?_ ?_ ?_) (by simp [walkL, hS0]) (fun p hp => ?_)
  · simp
  · simp
  · simp [opsT]
  · simp
  obtain ⟨j, st, out⟩ := p
  obtain ⟨hj, hst, hout, hw⟩ := hp
  simp only at hj hst hout hw ⊢
  refine SatD.regSeq hΓ follows [3, 4, 8, 9, 12, 13, 14, 15] ?_
  simp [d20r4]
  refine SatD.seq ?_
  refine SatD.cond rfl (fun hcc => ?_) (fun hcc => ?_)
  · simp at hcc
    refine SatD.skip ?_
    simp
    refine SatD.seq ?_
    have hjp : j < path.length := by omega
    have hr := rowAt_ints hjp
    have hws := walk_succ (arcs := arcs) hjp
    obtain ⟨i, hi⟩ : ∃ i, path.getD j default = i := ⟨_, rfl⟩
    rw [hi] at hr hws
    rw [hw] at hws
    refine SatD.block ?_
    refine SatD.regSeq hΓ follows [3, 4, 8, 9, 11, 12, 13, 14] ?_
    simp [d20r5, hr, hcc, hL]
    refine SatD.seq ?_
    refine SatD.regToS hΓ follows [(3, .v (.box [.sl (colsT x.columns), .sl (intsT x.insert), ti x.swap])), (4, .v (.box [ti s0, .sl (arcsT arcs), .sl (intsT fin)])), (8, .v (ti st)), (9, .aref 1419 0), (11, .v (ti i)), (12, .v (.sl (intsT path))), (13, .v (ti L)), (14, .v (ti j)), (36, .v (.bool (decide (i < 0 ∨ (arcs.length : Int) ≤ i ∨ (arcs.getD i.toNat default).f ≠ st))))] ?_ ?_
    · by_cases q1 : i < 0
      · simp [d20r6, q1]
      · by_cases q2 : (arcs.length : Int) ≤ i
        · simp [d20r6, q1, q2]
        · obtain ⟨k, rfl⟩ := Int.eq_ofNat_of_zero_le (show 0 ≤ i by omega)
          have hk : k < arcs.length := by omega
          have hra := rowAt_arcs hk
          obtain ⟨c, hc⟩ : ∃ c, arcs.getD k default = c := ⟨_, rfl⟩
          rw [hc] at hra
          have hc2 : arcs[k] = c := by simpa [List.getD, hk] using hc
          by_cases q3 : c.f = st
          · simp [d20r6, q1, q2, hk, hra, hc2, Arc.enc, q3]
          · simp [d20r6, q1, q2, hk, hra, hc2, Arc.enc, q3]
    refine SatD.cond rfl (fun h => ?_) (fun h => ?_)
    · simp only [decide_eq_true_eq] at h
      refine SatD.regSeq hΓ follows [6, 7] ?_
      simp [d20r7]
      refine SatD.ret ?_
      have hnone : walkL arcs path = none := walk_none (j := j + 1) (by rw [hws]; simp only [stepW]; rw [if_pos h])
      rw [hnone] at hR
      subst hR
      simp [d20res, opsT]
    simp only [decide_eq_false_iff_not] at h
    simp only [stepW] at hws
    rw [if_neg h] at hws
    obtain ⟨k, rfl⟩ := Int.eq_ofNat_of_zero_le (show 0 ≤ i by omega)
    have hk : k < arcs.length := by omega
    have hra := rowAt_arcs hk
    simp only [Int.toNat_natCast] at hws h
    obtain ⟨c, hc⟩ : ∃ c, arcs.getD k default = c := ⟨_, rfl⟩
    have hcin := hfit c (by rw [← hc]; simp [List.getD, hk])
    rw [hc] at hra hws h
    obtain ⟨cf, ct, cx, cc, co⟩ := c
    obtain ⟨f1, f2, f3, f4, f5⟩ := hcin
    simp only at f1 f2 f3 f4 f5 hws
    obtain ⟨g, rfl⟩ := Int.eq_ofNat_of_zero_le f3
    refine SatD.skip ?_
    simp
    refine SatD.regSeq hΓ follows [3, 4, 8, 9, 11, 12, 13, 14] ?_
    simp [d20r8, hk, hra, Arc.enc]
    refine SatD.reg hΓ follows [3, 4, 8, 9, 12, 13, 14] ?_
    have hcr : ∀ r ∈ opsT co, r.length = 2 := by intro r hr; simp only [opsT, List.mem_map] at hr; obtain ⟨c, _, rfl⟩ := hr; rfl
    simp [d20r9, hk, hra, Arc.enc, roomOk]
    refine ⟨⟨hcr, by omega, by omega⟩, ?_⟩
    refine SatD.reg hΓ follows [3, 4, 8, 9, 12, 13, 14] ?_
    simp [d20r10]
    rw [wrap_id (by omega)]
    refine ⟨⟨j + 1, g, out ++ co⟩, Le.keep ?_ ?_ ?_ ?_, ⟨by simp; omega, by simp; omega, by simp; omega, hws⟩, by simp; omega⟩
    · simp
    · simp
    · simp [opsT]
    · simp
  simp at hcc
  have : j = L := by omega
  subst this
  rw [← hL, List.take_length] at hw
  rw [hw] at hR
  simp only [Int.toNat_natCast] at hR
  refine SatD.exit ?_
  simp
  refine SatD.seq ?_
  have hrf := rowAt_ints hst
  obtain ⟨fv, hfv⟩ : ∃ v, fin.getD st default = v := ⟨_, rfl⟩
  rw [hfv] at hrf
  refine SatD.regSeq hΓ follows [3, 4, 8, 9, 57] ?_
  simp [d20r11, hst, hrf]
  refine SatD.cond rfl (fun h => ?_) (fun h => ?_)
  · simp at h
    rw [if_pos (show 1099511627776 ≤ fin.getD st default by rw [hfv]; exact h)] at hR
    subst hR
    refine SatD.regSeq hΓ follows [6, 7] ?_
    simp [d20r12]
    refine SatD.ret ?_
    simp [d20res, opsT]
  · simp at h
    rw [if_neg (show ¬ 1099511627776 ≤ fin.getD st default by rw [hfv]; omega)] at hR
    refine SatD.skip ?_
    simp
    refine SatD.seq ?_
    obtain ⟨n, hn⟩ : ∃ n, x.columns.length = n := ⟨_, rfl⟩
    rw [hn] at h0 hR
    have w1 : (st : Int).tdiv 2 = st / 2 := tdiv2 (by omega)
    obtain ⟨m, hm⟩ : ∃ m : Int, (n : Int) - st / 2 = m := ⟨_, rfl⟩
    have w2 : IntKind.i64.wrap ((n : Int) - st / 2) = m := by rw [wrap_id (by omega)]; exact hm
    have w3 : IntKind.i64.wrap ((st : Int) / 2) = st / 2 := wrap_id (by omega)
    rw [hm] at hR
    refine SatD.regSeq hΓ follows [9, 63, 64] ?_
    simp [d20r13, hn, w1, w2, w3]
    refine SatD.block ?_
    refine SatD.loop (fun k : Nat => ⟨DM.look [(9, .aref 1419 0), (63, .v (ti m)), (64, .v (ti k))], obs [(1419, .arr 0 53 2 (opsT (out ++ dels k)))], 5000, 1000, []⟩)
      (fun k => k ≤ m.toNat) (fun k => m.toNat - k) 0 (Le.keep ?_ ?_ ?_ ?_) (by simp) (fun k hk => ?_)
    · simp
    · simp
    · simp [opsT, dels]
    · simp
    refine SatD.regSeq hΓ follows [9, 63, 64, 65] ?_
    simp [d20r14]
    refine SatD.seq ?_
    refine SatD.cond rfl (fun hck => ?_) (fun hck => ?_)
    · simp at hck
      refine SatD.skip ?_
      simp
      refine SatD.seq ?_
      refine SatD.block ?_
      have hd : (dels k).length = k := by simp [dels]
      refine SatD.reg hΓ follows [9, 63, 64] ?_
      simp [d20r15, roomOk, chunk, hd]
      refine ⟨by omega, ?_⟩
      refine SatD.reg hΓ follows [9, 63, 64] ?_
      simp [d20r16]
      rw [wrap_id (by omega)]
      refine ⟨k + 1, Le.keep ?_ ?_ ?_ ?_, by omega, by omega⟩
      · simp
      · simp
      · simp [opsT, dels, List.replicate_succ']
      · simp
    · simp at hck
      have hkm : k = m.toNat := by omega
      refine SatD.exit ?_
      simp
      refine SatD.regSeq hΓ follows [6, 7] ?_
      simp [d20r17]
      refine SatD.ret ?_
      subst hR
      subst hkm
      simp [d20res]
end Go.Proofs
/- Comparisons of results. Conditions: none. -/
namespace Go.Proofs
open Go.DM
set_option linter.unusedSimpArgs false
set_option linter.unusedVariables false

set_option maxHeartbeats 4000000 in
theorem t26 (a b : List Int) (h1 : a.length ≤ 1000000000000) : CallsOk Tryd.prog 14 [.sl (intsT a), .sl (intsT b)] (.bool (decide (a = b))) := by
  have hΓ := okE
  obtain ⟨v, hv⟩ : ∃ v, decide (a = b) = v := ⟨_, rfl⟩
  rw [hv]
  have bad : a ≠ b → v = false := fun h => by rw [← hv]; simp [h]
  refine c26.ok (by simp) (initSt_sat ?_)
  simp
  refine SatD.regSeq hΓ follows [0, 1] ?_
  simp [d26r0]
  refine SatD.seq ?_
  refine SatD.regSeq hΓ follows [0, 1, 10] ?_
  simp [d26r1]
  refine SatD.cond rfl (fun h => ?_) (fun h => ?_)
  · simp at h
    refine SatD.regSeq hΓ follows [4] ?_
    simp [d26r2]
    refine SatD.ret ?_
    rw [bad fun e => by subst e; exact h rfl]
    simp [d26res]
  simp at h
  have hl : a.length = b.length := by omega
  refine SatD.skip ?_
  simp
  refine SatD.seq ?_
  refine SatD.regSeq hΓ follows [0, 1, 5] ?_
  simp [d26r3]
  refine SatD.block ?_
  refine SatD.loop (fun y : Nat => ⟨DM.look [(0, .v (.sl (intsT a))), (1, .v (.sl (intsT b))), (5, .v (ti y))], obs [], 2000, 1000, []⟩)
    (fun y => y ≤ a.length ∧ ∀ i, i < y → a.getD i default = b.getD i default) (fun y => a.length - y) 0 (Le.keep (o := []) ?_ ?_ ?_ ?_) (by simp) (fun y hy => ?_)
  · simp
  · simp
  · simp
  · simp
  obtain ⟨hy1, hy2⟩ := hy
  refine SatD.seq ?_
  refine SatD.regSeq hΓ follows [0, 1, 5, 14] ?_
  simp [d26r4]
  refine SatD.cond rfl (fun hcc => ?_) (fun hcc => ?_)
  · simp at hcc
    have hcb : y < b.length := by omega
    have r1 := rowAt_ints hcc
    have r2 := rowAt_ints hcb
    refine SatD.skip ?_
    simp
    refine SatD.seq ?_
    refine SatD.block ?_
    obtain ⟨u, hu⟩ : ∃ u, a.getD y default = u := ⟨_, rfl⟩
    obtain ⟨w, hw⟩ : ∃ u, b.getD y default = u := ⟨_, rfl⟩
    rw [hu] at r1
    rw [hw] at r2
    refine SatD.regToS hΓ follows [(0, .v (.sl (intsT a))), (1, .v (.sl (intsT b))), (5, .v (ti y)), (25, .v (.bool (decide (u ≠ w))))] ?_ ?_
    · simp [d26r5, hcc, hcb, r1, r2]
    refine SatD.cond rfl (fun h => ?_) (fun h => ?_)
    · simp only [decide_eq_true_eq] at h
      refine SatD.regSeq hΓ follows [4] ?_
      simp [d26r6]
      refine SatD.ret ?_
      rw [bad fun e => h (by rw [← hu, ← hw, e])]
      simp [d26res]
    · simp only [decide_eq_false_iff_not, Classical.not_not] at h
      refine SatD.skip ?_
      simp
      refine SatD.reg hΓ follows [0, 1, 5] ?_
      simp [d26r7]
      rw [wrap_id (by omega)]
      refine ⟨y + 1, Le.keep (o := []) ?_ ?_ ?_ ?_, ⟨by omega, fun i hi => ?_⟩, by omega⟩
      · simp
      · simp
      · simp
      · simp
      · by_cases e : i = y
        · subst e; show a.getD i default = b.getD i default; rw [hu, hw, h]
        · exact hy2 i (by omega)
  simp at hcc
  refine SatD.exit ?_
  simp
  refine SatD.regSeq hΓ follows [4] ?_
  simp [d26r8]
  refine SatD.ret ?_
  have : v = true := by
    rw [← hv, decide_eq_true_eq]
    apply List.ext_getElem hl
    intro i q1 q2
    have := hy2 i (by omega)
    simpa [List.getD, q1, q2] using this
  rw [this]
  simp [d26res]

set_option maxHeartbeats 4000000 in
theorem t22 (a b : List (Int × Int)) (h1 : a.length ≤ 1000000000000) : CallsOk Tryd.prog 17 [.sl (opsT a), .sl (opsT b)] (.bool (decide (a = b))) := by
  have hΓ := okE
  obtain ⟨v, hv⟩ : ∃ v, decide (a = b) = v := ⟨_, rfl⟩
  rw [hv]
  have bad : a ≠ b → v = false := fun h => by rw [← hv]; simp [h]
  refine c22.ok (by simp) (initSt_sat ?_)
  simp
  refine SatD.regSeq hΓ follows [0, 1] ?_
  simp [d22r0]
  refine SatD.seq ?_
  refine SatD.regSeq hΓ follows [0, 1, 10] ?_
  simp [d22r1]
  refine SatD.cond rfl (fun h => ?_) (fun h => ?_)
  · simp at h
    refine SatD.regSeq hΓ follows [4] ?_
    simp [d22r2]
    refine SatD.ret ?_
    rw [bad fun e => by subst e; exact h rfl]
    simp [d22res]
  simp at h
  have hl : a.length = b.length := by omega
  refine SatD.skip ?_
  simp
  refine SatD.seq ?_
  refine SatD.regSeq hΓ follows [0, 1, 5] ?_
  simp [d22r3]
  refine SatD.block ?_
  refine SatD.loop (fun y : Nat => ⟨DM.look [(0, .v (.sl (opsT a))), (1, .v (.sl (opsT b))), (5, .v (ti y))], obs [], 2000, 1000, []⟩)
    (fun y => y ≤ a.length ∧ ∀ i, i < y → a.getD i default = b.getD i default) (fun y => a.length - y) 0 (Le.keep (o := []) ?_ ?_ ?_ ?_) (by simp) (fun y hy => ?_)
  · simp
  · simp
  · simp
  · simp
  obtain ⟨hy1, hy2⟩ := hy
  refine SatD.seq ?_
  refine SatD.regSeq hΓ follows [0, 1, 5, 14] ?_
  simp [d22r4]
  refine SatD.cond rfl (fun hcc => ?_) (fun hcc => ?_)
  · simp at hcc
    have hcb : y < b.length := by omega
    have r1 := rowAt_ops hcc
    have r2 := rowAt_ops hcb
    refine SatD.skip ?_
    simp
    refine SatD.seq ?_
    refine SatD.block ?_
    obtain ⟨u, hu⟩ : ∃ u, a.getD y default = u := ⟨_, rfl⟩
    obtain ⟨w, hw⟩ : ∃ u, b.getD y default = u := ⟨_, rfl⟩
    rw [hu] at r1
    rw [hw] at r2
    refine SatD.regToS hΓ follows [(0, .v (.sl (opsT a))), (1, .v (.sl (opsT b))), (5, .v (ti y)), (25, .v (.bool (decide (u ≠ w))))] ?_ ?_
    · obtain ⟨u1, u2⟩ := u
      obtain ⟨w1, w2⟩ := w
      simp [d22r5, hcc, hcb, r1, r2]
    refine SatD.cond rfl (fun h => ?_) (fun h => ?_)
    · simp only [decide_eq_true_eq] at h
      refine SatD.regSeq hΓ follows [4] ?_
      simp [d22r6]
      refine SatD.ret ?_
      rw [bad fun e => h (by rw [← hu, ← hw, e])]
      simp [d22res]
    · simp only [decide_eq_false_iff_not, Classical.not_not] at h
      refine SatD.skip ?_
      simp
      refine SatD.reg hΓ follows [0, 1, 5] ?_
      simp [d22r7]
      rw [wrap_id (by omega)]
      refine ⟨y + 1, Le.keep (o := []) ?_ ?_ ?_ ?_, ⟨by omega, fun i hi => ?_⟩, by omega⟩
      · simp
      · simp
      · simp
      · simp
      · by_cases e : i = y
        · subst e; show a.getD i default = b.getD i default; rw [hu, hw, h]
        · exact hy2 i (by omega)
  simp at hcc
  refine SatD.exit ?_
  simp
  refine SatD.regSeq hΓ follows [4] ?_
  simp [d22r8]
  refine SatD.ret ?_
  have : v = true := by
    rw [← hv, decide_eq_true_eq]
    apply List.ext_getElem hl
    intro i q1 q2
    have := hy2 i (by omega)
    simpa [List.getD, q1, q2] using this
  rw [this]
  simp [d22res]

abbrev spec22 : DM.Spec := specP (fun ts => ∃ a b : List (Int × Int), ts = [.sl (opsT a), .sl (opsT b)] ∧ a.length ≤ 1000000000000) (fun | [.sl a, .sl b] => .bool (decide (decOps a = decOps b)) | _ => .bool false) true
theorem ok22 : EnvOk Tryd.prog (envOf [(17, spec22)]) := by
  refine EnvOk.cons EnvOk.nil ?_
  rintro ts ⟨a, b, rfl, h⟩
  exact ⟨by simpa using t22 a b h, fun _ => rfl⟩
set_option maxHeartbeats 4000000 in
theorem t23 (a b : Arc) (h : a.ops.length ≤ 1000000000000) : CallsOk Tryd.prog 15 [.agg a.enc, .agg b.enc] (.bool (decide (a = b))) := by
  have hΓ := ok22
  obtain ⟨v, hv⟩ : ∃ v, decide (a = b) = v := ⟨_, rfl⟩
  rw [hv]
  obtain ⟨a1, a2, a3, a4, a5⟩ := a
  obtain ⟨b1, b2, b3, b4, b5⟩ := b
  simp only at h
  have hv2 : v = (decide (a1 = b1) && (decide (a2 = b2) && (decide (a3 = b3) && (decide (a4 = b4) && decide (a5 = b5))))) := by
    rw [← hv, Bool.eq_iff_iff]; simp
  refine c23.ok (by simp) (initSt_sat ?_)
  simp [Arc.enc]
  refine SatD.regSeq hΓ follows [2, 3] ?_
  simp [d23r0]
  have fin : SatD Tryd.prog 38 .ret (finQ d23res (.bool v)) ⟨DM.look [(4, .v (.bool v))], obs [], 2000, 1000, []⟩ := by
    refine SatD.ret ?_
    simp [d23res]
  refine SatD.seq ?_
  refine SatD.to ⟨DM.look [(4, .v (.bool v))], obs [], 2000, 1000, []⟩ ?_ fin
  by_cases q1 : a1 = b1
  · by_cases q2 : a2 = b2
    · by_cases q3 : a3 = b3
      · by_cases q4 : a4 = b4
        · refine SatD.reg hΓ follows [4] ?_
          simp [d23r1, q1, q2, q3, q4]
          simp [q1, q2, q3, q4] at hv2
          refine ⟨⟨a5, ⟨rfl, b5, rfl⟩, h⟩, Le.keep (o := []) ?_ ?_ ?_ ?_⟩
          · simp
          · simp
          · simp
          · simp [hv2]
        · refine SatD.reg hΓ follows [4] ?_
          simp [d23r1, q1, q2, q3, q4]
          simp [q4] at hv2
          refine Le.keep (o := []) ?_ ?_ ?_ ?_
          · simp
          · simp
          · simp
          · simp [hv2]
      · refine SatD.reg hΓ follows [4] ?_
        simp [d23r1, q1, q2, q3]
        simp [q3] at hv2
        refine Le.keep (o := []) ?_ ?_ ?_ ?_
        · simp
        · simp
        · simp
        · simp [hv2]
    · refine SatD.reg hΓ follows [4] ?_
      simp [d23r1, q1, q2]
      simp [q2] at hv2
      refine Le.keep (o := []) ?_ ?_ ?_ ?_
      · simp
      · simp
      · simp
      · simp [hv2]
  · refine SatD.reg hΓ follows [4] ?_
    simp [d23r1, q1]
    simp [q1] at hv2
    refine Le.keep (o := []) ?_ ?_ ?_ ?_
    · simp
    · simp
    · simp
    · simp [hv2]

/-! below -/
def belowP (y : List Int) (terms : Int) : Prop := ∀ i, i < y.length → 0 ≤ y.getD i default ∧ y.getD i default < terms
instance (y : List Int) (terms : Int) : Decidable (belowP y terms) := by unfold belowP; infer_instance
end Go.Proofs
/- The example of the document. Conditions: none. -/
namespace Go.Proofs
open Go.DM Go.DM.Srt
set_option linter.unusedSimpArgs false
set_option linter.unusedVariables false

def exIn : Input := ⟨[⟨0, [0, -1], 5⟩], [3, 3], 4⟩
def exL : Lattice := ⟨3, [⟨0, 0, 0, 3, [(3, 0)]⟩, ⟨0, 0, 1, 3, [(3, 1)]⟩, ⟨0, 2, 0, 0, [(1, 0)]⟩, ⟨0, 2, 1, 8, [(2, 0), (3, 1)]⟩, ⟨2, 2, 0, 3, [(3, 0)]⟩, ⟨2, 2, 1, 3, [(3, 1)]⟩], [5, 1099511627776, 0]⟩
theorem ex_build : buildL exIn = exL := by kernel_rfl
theorem ex_len : (arcsAll exIn).length = 6 := by kernel_rfl
theorem ex_script1 : scriptL 1 exL [9] = ([], 1) := by kernel_rfl
theorem ex_script2 : scriptL 1 exL [3] = ([(2, 0), (3, 1)], 0) := by kernel_rfl
theorem ex_dist1 : distL exL [1] = 8 := by kernel_rfl
theorem ex_dist2 : distL exL [0] = 0 := by kernel_rfl
theorem ex_valid : validP exL 2 := by decide
theorem ex_valid1 : ¬ validP exL 1 := by decide

theorem ex_ok : inOk exIn := by
  refine ⟨⟨by decide, ?_⟩, ?_, by decide, ?_, by decide, by decide⟩
  · intro c hc; simp [exIn] at hc; subst hc; decide
  · intro c hc; simp [exIn] at hc; subst hc; refine ⟨by decide, ?_⟩; intro p hp; simp at hp; omega
  · intro p hp; simp [exIn] at hp; omega
theorem ex_fit : arcsFit exL.final.length exL.arcs := by
  intro a ha
  simp [exL] at ha
  rcases ha with rfl | rfl | rfl | rfl | rfl | rfl <;> simp [exL]

abbrev s12 : DM.Spec := specP (fun ts => ts = [exIn.enc]) (fun _ => exL.enc) false
abbrev s20 : DM.Spec := specP (fun ts => ∃ p : List Int, ts = [exIn.enc, exL.enc, .sl (intsT p)] ∧ p.length ≤ 1000) (fun | [_, _, .sl p] => .tup [.sl (opsT (scriptL 1 exL (decInts p)).1), ti (scriptL 1 exL (decInts p)).2] | _ => .bool false) false
abbrev s18 : DM.Spec := specP (fun ts => ∃ y : List Int, ts = [exL.enc, .sl (intsT y)] ∧ y.length ≤ 1000) (fun | [_, .sl y] => ti (distL exL (decInts y)) | _ => .bool false) true
abbrev s15 : DM.Spec := specP (fun ts => ∃ t : Int, ts = [exL.enc, ti t]) (fun | [_, .int _ t] => .bool (decide (validP exL t)) | _ => .bool false) true
abbrev s26 : DM.Spec := specP (fun ts => ∃ a b : List Int, ts = [.sl (intsT a), .sl (intsT b)] ∧ a.length ≤ 1000000000000) (fun | [.sl a, .sl b] => .bool (decide (decInts a = decInts b)) | _ => .bool false) true
abbrev s23 : DM.Spec := specP (fun ts => ∃ a b : Arc, ts = [.agg a.enc, .agg b.enc] ∧ a.ops.length ≤ 1000000000000) (fun | [.agg a, .agg b] => .bool (decide (decArc a = decArc b)) | _ => .bool false) true
theorem ok10 : EnvOk Tryd.prog (envOf [(6, s12), (11, s20), (16, s18), (18, s15), (14, s26), (15, s23), (17, spec22)]) := by
  refine EnvOk.cons (EnvOk.cons (EnvOk.cons (EnvOk.cons (EnvOk.cons (EnvOk.cons ok22 ?_) ?_) ?_) ?_) ?_) ?_
  · rintro ts ⟨a, b, rfl, h⟩
    exact ⟨by simpa using t23 a b h, fun _ => rfl⟩
  · rintro ts ⟨a, b, rfl, h⟩
    exact ⟨by simpa using t26 a b h, fun _ => rfl⟩
  · rintro ts ⟨t, rfl⟩
    exact ⟨t15 exL t (by decide) (by decide), fun _ => rfl⟩
  · rintro ts ⟨y, rfl, h⟩
    exact ⟨by simpa using t18 exL y 2 ex_valid (by decide) (by decide) (by omega), fun _ => rfl⟩
  · rintro ts ⟨p, rfl, h⟩
    exact ⟨by simpa [show exIn.columns.length = 1 from rfl] using t20 exIn exL p ex_fit (by decide) (by decide) (by decide) (by decide) (by omega), fun h => by cases h⟩
  · rintro ts rfl
    refine ⟨?_, fun h => by cases h⟩
    have := t12 exIn ex_ok (by rw [ex_len]; decide) (by rw [ex_len]; decide)
    rw [ex_build] at this
    exact this

set_option maxRecDepth 20000 in
set_option maxHeartbeats 4000000 in
theorem t10 : CallsOk Tryd.prog 4 [] (.bool true) := by
  have hΓ := ok10
  refine c10.ok (by simp) (initSt_sat ?_)
  simp
  refine SatD.regSeq hΓ follows [] ?_
  simp [d10r0]
  refine SatD.regSeq hΓ follows [1] ?_
  simp [d10r1, chunk]
  refine SatD.regSeq hΓ follows [1, 2] ?_
  simp [d10r2, Lattice.enc]
  refine ⟨rfl, ?_⟩
  refine SatD.le (Le.keep (o := []) (l := [(1, .v (.box [.sl (colsT exIn.columns), .sl (intsT exIn.insert), ti exIn.swap])), (2, .v (.box [ti exL.states, .sl (arcsT exL.arcs), .sl (intsT exL.final)]))]) (nxt' := 2000) ?_ ?_ ?_ ?_) ?_
  · simp
  · simp
  · simp
  · simp [exIn, colsT, Column.enc, intsT]
  have d1 : decInts [[T.int IntKind.i64 9]] = [9] := rfl
  have d2 : decInts [[T.int IntKind.i64 3]] = [3] := rfl
  have d3 : decInts [[T.int IntKind.i64 1]] = [1] := rfl
  have d4 : decInts [[T.int IntKind.i64 0]] = [0] := rfl
  refine SatD.regSeq hΓ follows [1, 2, 4] ?_
  simp [d10r3, chunk, Input.enc, Lattice.enc, d1, ex_script1]
  refine ⟨⟨[9], rfl, by decide⟩, ?_⟩
  refine SatD.regSeq hΓ follows [1, 2, 4, 5, 6] ?_
  simp [d10r4, chunk, Input.enc, Lattice.enc, d2, ex_script2]
  refine ⟨⟨[3], rfl, by decide⟩, ?_⟩
  have hrow : DM.rowAt (arcsT exL.arcs) 3 = [ti 0, ti 2, ti 1, ti 8, .sl (opsT [(2, 0), (3, 1)])] := rfl
  have hlen : exL.arcs.length = 6 := rfl
  have hst : exL.states = 3 := rfl
  have e1 : (decArc [ti 0, ti 2, ti 1, ti 8, T.sl (opsT [(2, 0), (3, 1)])] = decArc [T.int IntKind.i64 0, T.int IntKind.i64 2, T.int IntKind.i64 1, T.int IntKind.i64 8, T.sl [[T.int IntKind.i64 2, T.int IntKind.i64 0], [T.int IntKind.i64 3, T.int IntKind.i64 1]]]) = True := eq_true rfl
  have e2 : (exL.final = decInts [[T.int IntKind.i64 5], [T.int IntKind.i64 1099511627776], [T.int IntKind.i64 0]]) = True := eq_true rfl
  refine SatD.regSeq hΓ follows [0] ?_
  simp [d10r5, chunk, Lattice.enc, e1, e2, hrow, hlen, hst, d3, d4, ex_dist1, ex_dist2, ex_valid, ex_valid1]
  refine ⟨⟨⟨0, 2, 1, 8, [(2, 0), (3, 1)]⟩, ⟨rfl, ⟨0, 2, 1, 8, [(2, 0), (3, 1)]⟩, rfl⟩, by decide⟩, ⟨exL.final, ⟨rfl, [5, 1099511627776, 0], rfl⟩, by decide⟩, ⟨[1], rfl, by decide⟩, ⟨[0], rfl, by decide⟩, ⟨[(2, 0), (3, 1)], ⟨rfl, _, rfl⟩, by decide⟩, ?_⟩
  refine SatD.ret ?_
  simp [d10res]
end Go.Proofs
