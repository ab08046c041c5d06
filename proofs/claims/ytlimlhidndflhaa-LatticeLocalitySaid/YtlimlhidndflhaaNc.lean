/- The reference's Path and Script. Conditions: none. -/
import Derived.Test.YtlimlhidndflhaaLc
import Derived.Test.YtlimlhidndflhaaNb
import Derived.Test.YtlimlhidndflhaaNa
namespace Go.Proofs
open Go.DM
set_option linter.unusedSimpArgs false
set_option linter.unusedVariables false

def stepP (arcs : List Arc) : Option (Int × Int) → Int → Option (Int × Int)
  | none, _ => none
  | some (s, c), i => if i < 0 ∨ (arcs.length : Int) ≤ i ∨ (arcs.getD i.toNat default).f ≠ s then none else some ((arcs.getD i.toNat default).t, satA c (arcs.getD i.toNat default).cost)
def pathF (arcs : List Arc) (path : List Int) : Option (Int × Int) := path.foldl (stepP arcs) (some (0, 0))
def pathL (l : Lattice) (path : List Int) : Int × Int × Bool :=
  match pathF l.arcs path with
  | none => (0, 0, false)
  | some (s, c) => if 1099511627776 ≤ l.final.getD s.toNat default then (0, 0, false) else (s, satA c (l.final.getD s.toNat default), true)
theorem foldP_none (arcs : List Arc) (l : List Int) : l.foldl (stepP arcs) none = none := by
  induction l with
  | nil => rfl
  | cons i l ih => exact ih
theorem pathF_succ {arcs : List Arc} {path : List Int} {j : Nat} (h : j < path.length) : pathF arcs (path.take (j + 1)) = stepP arcs (pathF arcs (path.take j)) (path.getD j default) := by
  unfold pathF
  rw [List.take_add_one, List.getElem?_eq_getElem h, List.foldl_append]
  simp [List.getD, h]
theorem pathF_none {arcs : List Arc} {path : List Int} {j : Nat} (h : pathF arcs (path.take j) = none) : pathF arcs path = none := by
  have : pathF arcs path = (path.drop j).foldl (stepP arcs) (pathF arcs (path.take j)) := by
    unfold pathF
    rw [← List.foldl_append, List.take_append_drop]
  rw [this, h, foldP_none]
/-- Both walks go through the same states. -/
theorem walk_path (arcs : List Arc) (path : List Int) : (pathF arcs path).map (·.1) = (walkL arcs path).map (·.1) := by
  unfold pathF walkL
  have : ∀ (l : List Int) (p : Option (Int × Int)) (q : Option (Int × List (Int × Int))), p.map (·.1) = q.map (·.1) → (l.foldl (stepP arcs) p).map (·.1) = (l.foldl (stepW arcs) q).map (·.1) := by
    intro l
    induction l with
    | nil => intro p q h; exact h
    | cons i l ih =>
      intro p q h
      refine ih _ _ ?_
      cases p with
      | none =>
        cases q with
        | none => rfl
        | some q => cases h
      | some p =>
        cases q with
        | none => cases h
        | some q =>
          obtain ⟨s, c⟩ := p
          obtain ⟨s', o⟩ := q
          simp at h
          subst h
          simp only [stepP, stepW]
          split <;> rfl
  exact this path _ _ rfl
theorem satA_nn {a b : Int} (ha : 0 ≤ a) (hb : 0 ≤ b) : 0 ≤ satA a b := by unfold satA; split <;> omega

structure PC where
  (j s : Nat)
  c : Int

set_option maxRecDepth 20000 in
set_option maxHeartbeats 8000000 in
theorem t40 (l : Lattice) (path : List Int) (hfit : arcsFit l.final.length l.arcs) (hcost : ∀ a ∈ l.arcs, 0 ≤ a.cost) (hfin : ∀ v ∈ l.final, 0 ≤ v) (hS0 : 0 < l.final.length) (h1 : l.final.length ≤ 1000000) (h2 : l.arcs.length ≤ 1000000000) (h3 : path.length ≤ 1000) :
    CallsOk Try.prog 40 [l.enc, .sl (intsT path)] (.tup [ti (pathL l path).1, ti (pathL l path).2.1, .bool (pathL l path).2.2]) := by
  have hΓ := ok36
  obtain ⟨s0, arcs, fin⟩ := l
  obtain ⟨R, hR⟩ : ∃ R, pathL ⟨s0, arcs, fin⟩ path = R := ⟨_, rfl⟩
  rw [hR]
  simp only [pathL] at hR
  simp only at hfit hcost hfin hS0 h1 h2
  refine c40.ok (by simp) (initSt_sat ?_)
  simp [Lattice.enc]
  refine SatD.regSeq hΓ follows [1, 2] ?_
  simp [d40r0]
  refine SatD.le (Le.keep (o := []) (l := [(1, .v (.sl (intsT path))), (2, .v (.box [ti s0, .sl (arcsT arcs), .sl (intsT fin)]))]) (nxt' := 1200) ?_ ?_ ?_ ?_) ?_
  · simp
  · simp
  · simp
  · simp
  refine SatD.regSeq hΓ follows [1, 2, 7] ?_
  simp [d40r1]
  refine SatD.regSeq hΓ follows [1, 2, 7, 8] ?_
  simp [d40r2]
  refine SatD.seq ?_
  refine SatD.regSeq hΓ follows [1, 2, 7, 8, 9] ?_
  simp [d40r3]
  obtain ⟨L, hL⟩ : ∃ L, path.length = L := ⟨_, rfl⟩
  rw [hL] at h3
  refine SatD.block ?_
  refine SatD.loop (fun p : PC => ⟨DM.look [(1, .v (.sl (intsT path))), (2, .v (.box [ti s0, .sl (arcsT arcs), .sl (intsT fin)])), (7, .v (ti p.s)), (8, .v (ti p.c)), (9, .v (ti p.j))], obs [], 2000, 1000, []⟩)
    (fun p => p.j ≤ L ∧ p.s < fin.length ∧ 0 ≤ p.c ∧ pathF arcs (path.take p.j) = some ((p.s : Int), p.c)) (fun p => L - p.j) ⟨0, 0, 0⟩ (Le.keep (o := []) ?_ ?_ ?_ ?_) (by simp [pathF, hS0]) (fun p hp => ?_)
  · simp
  · simp
  · simp
  · simp
  obtain ⟨j, st, cc⟩ := p
  obtain ⟨hj, hst, hcc0, hw⟩ := hp
  simp only at hj hst hcc0 hw ⊢
  refine SatD.seq ?_
  refine SatD.regSeq hΓ follows [1, 2, 7, 8, 9, 13] ?_
  simp [d40r4, hL]
  refine SatD.cond rfl (fun hcc => ?_) (fun hcc => ?_)
  · simp at hcc
    refine SatD.skip ?_
    simp
    refine SatD.seq ?_
    have hjp : j < path.length := by omega
    have hr := rowAt_ints hjp
    have hws := pathF_succ (arcs := arcs) hjp
    obtain ⟨i, hi⟩ : ∃ i, path.getD j default = i := ⟨_, rfl⟩
    rw [hi] at hr hws
    rw [hw] at hws
    refine SatD.block ?_
    refine SatD.seq ?_
    refine SatD.regToS hΓ follows [(1, .v (.sl (intsT path))), (2, .v (.box [ti s0, .sl (arcsT arcs), .sl (intsT fin)])), (7, .v (ti st)), (8, .v (ti cc)), (9, .v (ti j)), (43, .v (.bool (decide (i < 0 ∨ (arcs.length : Int) ≤ i ∨ (arcs.getD i.toNat default).f ≠ st))))] ?_ ?_
    · by_cases q1 : i < 0
      · simp [d40r5, hr, hcc, hL, q1]
      · by_cases q2 : (arcs.length : Int) ≤ i
        · simp [d40r5, hr, hcc, hL, q1, q2]
        · obtain ⟨k, rfl⟩ := Int.eq_ofNat_of_zero_le (show 0 ≤ i by omega)
          have hk : k < arcs.length := by omega
          have hra := rowAt_arcs hk
          obtain ⟨c, hc⟩ : ∃ c, arcs.getD k default = c := ⟨_, rfl⟩
          rw [hc] at hra
          have hc2 : arcs[k] = c := by simpa [List.getD, hk] using hc
          by_cases q3 : c.f = st
          · simp [d40r5, hr, hcc, hL, q1, q2, hk, hra, hc2, Arc.enc, q3]
          · simp [d40r5, hr, hcc, hL, q1, q2, hk, hra, hc2, Arc.enc, q3]
    refine SatD.cond rfl (fun h => ?_) (fun h => ?_)
    · simp only [decide_eq_true_eq] at h
      refine SatD.regSeq hΓ follows [4, 5, 6] ?_
      simp [d40r6]
      refine SatD.ret ?_
      have hnone : pathF arcs path = none := pathF_none (j := j + 1) (by rw [hws]; simp only [stepP]; rw [if_pos h])
      rw [hnone] at hR
      subst hR
      simp [d40res]
    simp only [decide_eq_false_iff_not] at h
    simp only [stepP] at hws
    rw [if_neg h] at hws
    obtain ⟨k, rfl⟩ := Int.eq_ofNat_of_zero_le (show 0 ≤ i by omega)
    have hk : k < arcs.length := by omega
    have hra := rowAt_arcs hk
    simp only [Int.toNat_natCast] at hws h
    obtain ⟨c, hc⟩ : ∃ c, arcs.getD k default = c := ⟨_, rfl⟩
    have hcm : c ∈ arcs := by rw [← hc]; simp [List.getD, hk]
    have hcin := hfit c hcm
    have hcst := hcost c hcm
    rw [hc] at hra hws h
    obtain ⟨cf, ct, cx, ck, co⟩ := c
    obtain ⟨f1, f2, f3, f4, f5⟩ := hcin
    simp only at f1 f2 f3 f4 f5 hws hcst
    obtain ⟨g, rfl⟩ := Int.eq_ofNat_of_zero_le f3
    refine SatD.skip ?_
    simp
    refine SatD.regSeq hΓ follows [1, 2, 7, 8, 9] ?_
    simp [d40r7, hr, hcc, hL, hk, hra, Arc.enc]
    refine SatD.reg hΓ follows [1, 2, 7, 8, 9] ?_
    simp [d40r8, hr, hcc, hL, hk, hra, Arc.enc]
    refine ⟨⟨cc, ck, ⟨rfl, rfl⟩, by omega, by omega⟩, ?_⟩
    refine SatD.reg hΓ follows [1, 2, 7, 8, 9] ?_
    simp [d40r9]
    rw [wrap_id (by omega)]
    refine ⟨⟨j + 1, g, satA cc ck⟩, Le.keep (o := []) ?_ ?_ ?_ ?_, ⟨by simp; omega, by simp; omega, satA_nn hcc0 hcst, hws⟩, by simp; omega⟩
    · simp
    · simp
    · simp
    · simp
  simp at hcc
  have : j = L := by omega
  subst this
  rw [← hL, List.take_length] at hw
  rw [hw] at hR
  simp only [Int.toNat_natCast] at hR
  refine SatD.exit ?_
  simp
  refine SatD.seq ?_
  have hrf := rowAt_ints hst
  obtain ⟨fv, hfv⟩ : ∃ v, fin.getD st default = v := ⟨_, rfl⟩
  have hfv0 := hfin fv (by rw [← hfv]; simp [List.getD, hst])
  have hR' : (if 1099511627776 ≤ fv then ((0 : Int), (0 : Int), false) else ((st : Int), satA cc fv, true)) = R := by rw [← hfv]; exact hR
  rw [hfv] at hrf
  refine SatD.regSeq hΓ follows [2, 7, 8, 69] ?_
  simp [d40r10, hst, hrf]
  refine SatD.cond rfl (fun h => ?_) (fun h => ?_)
  · simp at h
    rw [if_pos h] at hR'
    subst hR'
    refine SatD.regSeq hΓ follows [4, 5, 6] ?_
    simp [d40r11]
    refine SatD.ret ?_
    simp [d40res]
  · simp at h
    rw [if_neg (by omega)] at hR'
    subst hR'
    refine SatD.skip ?_
    simp
    refine SatD.regSeq hΓ follows [4, 5, 6] ?_
    simp [d40r12, hst, hrf]
    refine ⟨⟨cc, fv, ⟨rfl, rfl⟩, by omega, by omega⟩, ?_⟩
    refine SatD.ret ?_
    simp [d40res]

theorem walk_nn {arcs : List Arc} {S : Nat} (hfit : arcsFit S arcs) : ∀ (l : List Int) (s : Int) (out : List (Int × Int)), 0 ≤ s ∧ s < S → ∀ s' out', l.foldl (stepW arcs) (some (s, out)) = some (s', out') → 0 ≤ s' ∧ s' < S
  | [], s, out, h, s', out', e => by simp at e; omega
  | i :: l, s, out, h, s', out', e => by
    simp only [List.foldl_cons, stepW] at e
    split at e
    · rw [fold_none] at e; cases e
    · rename_i hc
      have hk : i.toNat < arcs.length := by omega
      have := hfit (arcs.getD i.toNat default) (by simp [List.getD, hk])
      exact walk_nn hfit l _ _ ⟨this.2.2.1, this.2.2.2.1⟩ _ _ e

structure PO where
  j : Nat
  out : List (Int × Int)
/-! Script -/
abbrev g40 (l : Lattice) : DM.Spec := specP (fun ts => ∃ path : List Int, ts = [l.enc, .sl (intsT path)] ∧ path.length ≤ 1000) (fun | [_, .sl p] => .tup [ti (pathL l (decInts p)).1, ti (pathL l (decInts p)).2.1, .bool (pathL l (decInts p)).2.2] | _ => .bool false) false

set_option maxRecDepth 20000 in
set_option maxHeartbeats 8000000 in
theorem t21 (x : Input) (l : Lattice) (path : List Int) (hfit : arcsFit l.final.length l.arcs) (hcost : ∀ a ∈ l.arcs, 0 ≤ a.cost) (hfin : ∀ v ∈ l.final, 0 ≤ v) (hS0 : 0 < l.final.length) (h0 : x.columns.length ≤ 1000000) (h1 : l.final.length ≤ 1000000) (h2 : l.arcs.length ≤ 1000000000) (h3 : path.length ≤ 1000) :
    CallsOk Try.prog 21 [x.enc, l.enc, .sl (intsT path)] (.tup [.sl (opsT (scriptL x.columns.length l path).1), ti (scriptL x.columns.length l path).2]) := by
  have hΓ : EnvOk Try.prog (envOf [(40, g40 l)]) := by
    refine EnvOk.cons EnvOk.nil ?_
    rintro ts ⟨p, rfl, h⟩
    exact ⟨by simpa using t40 l p hfit hcost hfin hS0 h1 h2 h, fun h => by cases h⟩
  obtain ⟨PR, hPR⟩ : ∃ p, pathL l path = p := ⟨_, rfl⟩
  obtain ⟨lt, hlt⟩ : ∃ t, l.enc = t := ⟨_, rfl⟩
  obtain ⟨s0, arcs, fin⟩ := l
  have hle : T.agg [ti s0, .sl (arcsT arcs), .sl (intsT fin)] = lt := hlt
  obtain ⟨R, hR⟩ : ∃ R, scriptL x.columns.length ⟨s0, arcs, fin⟩ path = R := ⟨_, rfl⟩
  rw [hR]
  simp only [scriptL] at hR
  have hPR' := hPR
  simp only [pathL] at hPR'
  have hwp := walk_path arcs path
  simp only at hfit hcost hfin hS0 h1 h2
  refine c21.ok (by simp) (initSt_sat ?_)
  simp [Lattice.enc, Input.enc]
  refine SatD.regSeq hΓ follows [2, 3, 4] ?_
  simp [d21r0]
  refine SatD.le (Le.keep (o := []) (l := [(2, .v (.sl (intsT path))), (3, .v (.box [.sl (colsT x.columns), .sl (intsT x.insert), ti x.swap])), (4, .v (.box [ti s0, .sl (arcsT arcs), .sl (intsT fin)]))]) (nxt' := 1200) ?_ ?_ ?_ ?_) ?_
  · simp
  · simp
  · simp
  · simp
  refine SatD.regSeq hΓ follows [2, 3, 4, 8, 10] ?_
  simp [d21r1, hle, hPR]
  refine ⟨⟨path, ⟨hlt.symm, rfl⟩, h3⟩, ?_⟩
  have hcase : (PR.2.2 = false ∧ R = ([], 1)) ∨ ∃ (st : Nat) (out : List (Int × Int)), PR.1 = st ∧ PR.2.2 = true ∧ walkL arcs path = some ((st : Int), out) ∧ R = (out ++ dels ((x.columns.length : Int) - st / 2).toNat, 0) := by
    cases hp : pathF arcs path with
    | none =>
      cases hw : walkL arcs path with
      | none =>
        rw [hp] at hPR'
        rw [hw] at hR
        exact .inl ⟨by rw [← hPR'], hR.symm⟩
      | some q => rw [hp, hw] at hwp; cases hwp
    | some p =>
      cases hw : walkL arcs path with
      | none => rw [hp, hw] at hwp; cases hwp
      | some q =>
        rw [hp] at hPR'
        rw [hw] at hR
        rw [hp, hw] at hwp
        obtain ⟨s, c⟩ := p
        obtain ⟨s', out⟩ := q
        simp at hwp
        subst hwp
        simp only at hPR' hR
        have hnn := walk_nn hfit path 0 [] (by omega) _ _ hw
        obtain ⟨st, rfl⟩ := Int.eq_ofNat_of_zero_le hnn.1
        by_cases hinf : 1099511627776 ≤ fin.getD (st : Int).toNat default
        · rw [if_pos hinf] at hPR' hR
          exact .inl ⟨by rw [← hPR'], hR.symm⟩
        · rw [if_neg hinf] at hPR' hR
          exact .inr ⟨st, out, by rw [← hPR'], by rw [← hPR'], rfl, hR.symm⟩
  clear hR hPR' hPR hwp
  obtain ⟨p1, p2, p3⟩ := PR
  simp only at hcase ⊢
  refine SatD.seq ?_
  refine SatD.regSeq hΓ follows [2, 3, 4, 8, 22] ?_
  simp [d21r2]
  rcases hcase with ⟨rfl, rfl⟩ | ⟨st, out, rfl, rfl, hw, rfl⟩
  · refine SatD.cond rfl (fun _ => ?_) (fun h => by cases h)
    refine SatD.regSeq hΓ follows [6, 7] ?_
    simp [d21r3]
    refine SatD.ret ?_
    simp [d21res, opsT]
  refine SatD.cond rfl (fun h => by cases h) (fun _ => ?_)
  refine SatD.skip ?_
  simp
  refine SatD.regSeq hΓ follows [2, 3, 4, 8, 11] ?_
  simp [d21r4]
  refine SatD.seq ?_
  refine SatD.le (Le.keep (o := []) (l := [(2, .v (.sl (intsT path))), (3, .v (.box [.sl (colsT x.columns), .sl (intsT x.insert), ti x.swap])), (4, .v (.box [ti s0, .sl (arcsT arcs), .sl (intsT fin)])), (8, .v (ti st)), (11, .nil0)]) (nxt' := 1500) ?_ ?_ ?_ ?_) ?_
  · simp
  · simp
  · simp
  · simp
  refine SatD.le (Le.nilSlot (k := 11) 52 (sz := 2) (by omega) (by simp)) ?_
  rw [obs_setO]
  refine SatD.regSeq hΓ follows [2, 3, 4, 8, 11, 12] ?_
  simp [d21r5]
  obtain ⟨L, hL⟩ : ∃ L, path.length = L := ⟨_, rfl⟩
  rw [hL] at h3
  refine SatD.to ⟨DM.look [(3, .v (.box [.sl (colsT x.columns), .sl (intsT x.insert), ti x.swap])), (8, .v (ti st)), (11, .aref 1500 0)], obs [(1500, .arr 0 52 2 (opsT out))], 3000, 1000, []⟩ ?_ ?_
  · refine SatD.block ?_
    refine SatD.loop (fun p : PO => ⟨DM.look [(2, .v (.sl (intsT path))), (3, .v (.box [.sl (colsT x.columns), .sl (intsT x.insert), ti x.swap])), (4, .v (.box [ti s0, .sl (arcsT arcs), .sl (intsT fin)])), (8, .v (ti st)), (11, .aref 1500 0), (12, .v (ti p.j))], obs [(1500, .arr 0 52 2 (opsT p.out))], 2000, 1000, []⟩)
      (fun p => p.j ≤ L ∧ p.out.length ≤ p.j * 1000000 ∧ ∃ s, walkL arcs (path.take p.j) = some (s, p.out)) (fun p => L - p.j) ⟨0, []⟩ (Le.keep ?_ ?_ ?_ ?_) (by simp [walkL]) (fun p hp => ?_)
    · simp
    · simp
    · simp [opsT]
    · simp
    obtain ⟨j, oj⟩ := p
    obtain ⟨hj, hout, sj, hwj⟩ := hp
    simp only at hj hout hwj ⊢
    refine SatD.seq ?_
    refine SatD.regSeq hΓ follows [2, 3, 4, 8, 11, 12, 26] ?_
    simp [d21r6, hL]
    refine SatD.cond rfl (fun hcc => ?_) (fun hcc => ?_)
    · simp at hcc
      have hjp : j < path.length := by omega
      have hr := rowAt_ints hjp
      have hws := walk_succ (arcs := arcs) hjp
      obtain ⟨i, hi⟩ : ∃ i, path.getD j default = i := ⟨_, rfl⟩
      rw [hi] at hr hws
      rw [hwj] at hws
      simp only [stepW] at hws
      have hno : ¬ (i < 0 ∨ (arcs.length : Int) ≤ i ∨ (arcs.getD i.toNat default).f ≠ sj) := by
        intro h
        rw [if_pos h] at hws
        rw [walk_none hws] at hw
        cases hw
      rw [if_neg hno] at hws
      obtain ⟨k, rfl⟩ := Int.eq_ofNat_of_zero_le (show 0 ≤ i by omega)
      have hk : k < arcs.length := by omega
      have hra := rowAt_arcs hk
      simp only [Int.toNat_natCast] at hws
      obtain ⟨c, hc⟩ : ∃ c, arcs.getD k default = c := ⟨_, rfl⟩
      have hcin := hfit c (by rw [← hc]; simp [List.getD, hk])
      rw [hc] at hra hws
      obtain ⟨cf, ct, cx, ck, co⟩ := c
      have f5 := hcin.2.2.2.2
      simp only at f5 hws
      have hcr : ∀ r ∈ opsT co, r.length = 2 := by intro r hr; simp only [opsT, List.mem_map] at hr; obtain ⟨c, _, rfl⟩ := hr; rfl
      refine SatD.skip ?_
      simp
      refine SatD.seq ?_
      refine SatD.block ?_
      refine SatD.reg hΓ follows [2, 3, 4, 8, 11, 12] ?_
      simp [d21r7, hr, hcc, hL, hk, hra, Arc.enc, roomOk]
      refine ⟨⟨hcr, by omega, by omega⟩, ?_⟩
      refine SatD.reg hΓ follows [2, 3, 4, 8, 11, 12] ?_
      simp [d21r8]
      rw [wrap_id (by omega)]
      refine ⟨⟨j + 1, oj ++ co⟩, Le.keep ?_ ?_ ?_ ?_, ⟨by simp; omega, by simp; omega, ct, hws⟩, by simp; omega⟩
      · simp
      · simp
      · simp [opsT]
      · simp
    · simp at hcc
      have : j = L := by omega
      subst this
      rw [← hL, List.take_length, hw] at hwj
      simp at hwj
      refine SatD.exit ⟨rfl, Le.keep ?_ ?_ ?_ ?_⟩
      · simp
      · simp
      · simp [hwj.2]
      · simp
  have houtl : out.length ≤ 1000 * 1000000 := by
    have key : ∀ (l : List Int) (p : Option (Int × List (Int × Int))) (b : Nat), (∀ s o, p = some (s, o) → o.length ≤ b) → ∀ s o, l.foldl (stepW arcs) p = some (s, o) → o.length ≤ b + l.length * 1000000 := by
      intro l
      induction l with
      | nil => intro p b h s o e; have := h s o e; simp; omega
      | cons i l ih =>
        intro p b h s o e
        have := ih (stepW arcs p i) (b + 1000000) (fun s' o' e' => ?_) s o e
        · simp only [List.length_cons]; omega
        · cases p with
          | none => cases e'
          | some q =>
            obtain ⟨sq, oq⟩ := q
            have hb := h sq oq rfl
            simp only [stepW] at e'
            split at e'
            · cases e'
            · rename_i hc
              simp only [Option.some.injEq, Prod.mk.injEq] at e'
              obtain ⟨_, rfl⟩ := e'
              have hk : i.toNat < arcs.length := by omega
              have := (hfit (arcs.getD i.toNat default) (by simp [List.getD, hk])).2.2.2.2
              rw [List.length_append]
              omega
    have := key path (some (0, [])) 0 (fun s o e => by simp at e; simp [← e.2]) _ _ hw
    omega
  obtain ⟨n, hn⟩ : ∃ n, x.columns.length = n := ⟨_, rfl⟩
  rw [hn] at h0 ⊢
  have w1 : (st : Int).tdiv 2 = ((st / 2 : Nat) : Int) := by rw [tdiv2 (by omega)]; omega
  obtain ⟨s2, hs2⟩ : ∃ s, st / 2 = s := ⟨_, rfl⟩
  rw [hs2] at w1
  have hm : ((n : Int) - st / 2).toNat = n - s2 := by omega
  rw [hm]
  simp
  refine SatD.seq ?_
  have w2 : ∀ k : Nat, k ≤ 10000000 → IntKind.i64.wrap (k : Int) = k := fun k hk => wrap_id (by omega)
  by_cases hst2 : st ≤ 1000000000000000
  · have w3 : IntKind.i64.wrap (s2 : Int) = s2 := wrap_id (by omega)
    refine SatD.regSeq hΓ follows [3, 11, 13] ?_
    simp [d21r9, w1, w3]
    refine SatD.block ?_
    refine SatD.loop (fun k : Nat => ⟨DM.look [(3, .v (.box [.sl (colsT x.columns), .sl (intsT x.insert), ti x.swap])), (11, .aref 1500 0), (13, .v (ti ((s2 + k : Nat) : Int)))], obs [(1500, .arr 0 52 2 (opsT (out ++ dels k)))], 5000, 1000, []⟩)
      (fun k => k ≤ n - s2) (fun k => n - s2 - k) 0 (Le.keep ?_ ?_ ?_ ?_) (by simp) (fun k hk => ?_)
    · simp
    · simp
    · simp [opsT, dels]
    · simp
    obtain ⟨z, hz⟩ : ∃ z, s2 + k = z := ⟨_, rfl⟩
    rw [hz]
    refine SatD.seq ?_
    refine SatD.regSeq hΓ follows [3, 11, 13, 46] ?_
    simp [d21r10, hn]
    refine SatD.cond rfl (fun hck => ?_) (fun hck => ?_)
    · simp at hck
      refine SatD.skip ?_
      simp
      refine SatD.seq ?_
      refine SatD.block ?_
      have hd : (dels k).length = k := by simp [dels]
      refine SatD.reg hΓ follows [3, 11, 13] ?_
      simp [d21r11, roomOk, chunk, hd]
      refine ⟨by omega, ?_⟩
      refine SatD.reg hΓ follows [3, 11, 13] ?_
      simp [d21r12]
      rw [wrap_id (by omega)]
      refine ⟨k + 1, Le.keep ?_ ?_ ?_ ?_, by omega, by omega⟩
      · simp
      · simp
      · simp [opsT, dels, List.replicate_succ']
      · simp; omega
    · simp at hck
      have hkm : k = n - s2 := by omega
      refine SatD.exit ?_
      simp
      refine SatD.regSeq hΓ follows [6, 7] ?_
      simp [d21r13]
      refine SatD.ret ?_
      subst hkm
      simp [d21res]
  · exfalso
    have hnn := walk_nn hfit path 0 [] (by omega) _ _ hw
    omega
end Go.Proofs
/- Law 6. Conditions: none. -/
namespace Go.Proofs
open Go.DM
set_option linter.unusedSimpArgs false
set_option linter.unusedVariables false

theorem fair_ok {x : Input} {k : Int} (h : fairP x k) : inOk x ∧ x.columns.length ≤ 60 ∧ x.insert.length ≤ 5 ∧ (∀ c ∈ x.columns, c.read.length = x.insert.length) := by
  obtain ⟨⟨h1, h2⟩, h3, h4⟩ := h
  have hcols : colsV x.columns x.insert.length := by
    by_cases e : colsV x.columns x.insert.length
    · exact e
    · exact absurd (.inr (.inr (.inr (.inr (.inr e))))) h3
  have hc : ∀ c ∈ x.columns, colV c x.insert.length := by
    intro c hc
    obtain ⟨i, hi, rfl⟩ := List.getElem_of_mem hc
    have := hcols i hi
    rwa [show x.columns.getD i default = x.columns[i] by simp [List.getD, hi]] at this
  have hsw : 0 ≤ x.swap ∧ x.swap ≤ 60000 := by
    constructor
    · by_cases e : x.swap < 0
      · exact absurd (.inr (.inr (.inr (.inl e)))) h3
      · omega
    · by_cases e : x.swap > 60000
      · exact absurd (.inr (.inr (.inr (.inr (.inl e))))) h3
      · omega
  have hn : x.columns.length ≤ 60 := by
    by_cases e : (x.columns.length : Int) > 60
    · exact absurd (.inr (.inl e)) h3
    · omega
  have hrd : ∀ c ∈ x.columns, c.read.length = x.insert.length := by
    intro c hcm
    have := (hc c hcm).1
    omega
  refine ⟨⟨⟨by omega, fun c hcm => ?_⟩, fun c hcm => ⟨by rw [hrd c hcm]; omega, fun p hp => ?_⟩, by omega, fun p hp => ?_, hsw.1, by omega⟩, hn, by omega, hrd⟩
  · have := (hc c hcm).1
    omega
  · obtain ⟨t, ht, rfl⟩ := List.getElem_of_mem hp
    have := (hc c hcm).2 t (by rw [hrd c hcm] at ht; simpa using ht)
    unfold readOk3 at this
    rw [show c.read.getD t default = c.read[t] by simp [List.getD, ht]] at this
    omega
  · obtain ⟨t, ht, rfl⟩ := List.getElem_of_mem hp
    have := h4 t (by simpa using ht)
    unfold insV at this
    rw [show x.insert.getD t default = x.insert[t] by simp [List.getD, ht]] at this
    omega

/-! what the reference builds fits -/
theorem mem_putFold {a b : Arc} {l : List Arc} (h : b ∈ (putFold a l).2) : b ∈ l ∨ b = a := by
  have key : ∀ (l : List Arc) (p : Bool × List Arc), b ∈ (l.foldl (putStep a) p).2 → b ∈ p.2 ∨ b ∈ l ∨ b = a := by
    intro l
    induction l with
    | nil => intro p h; exact .inl h
    | cons c l ih =>
      intro p h
      rcases ih _ h with h | h | h
      · unfold putStep at h
        split at h
        · simp only [List.mem_append, List.mem_singleton] at h
          rcases h with h | h
          · exact .inl h
          · split at h
            · exact .inr (.inr h)
            · exact .inr (.inl (by simp [h]))
        · split at h
          · simp only [List.mem_append, List.mem_singleton] at h
            rcases h with (h | h) | h
            · exact .inl h
            · exact .inr (.inr h)
            · exact .inr (.inl (by simp [h]))
          · simp only [List.mem_append, List.mem_singleton] at h
            rcases h with h | h
            · exact .inl h
            · exact .inr (.inl (by simp [h]))
      · exact .inr (.inl (by simp [h]))
      · exact .inr (.inr h)
  rcases key l (false, []) h with h | h | h
  · simp at h
  · exact .inl h
  · exact .inr h
theorem mem_putL {a b : Arc} {l : List Arc} (h : b ∈ putL l a) : b ∈ l ∨ b = a := by
  unfold putL at h
  split at h
  · exact .inl h
  · split at h
    · exact mem_putFold h
    · rw [List.mem_append, List.mem_singleton] at h
      rcases h with h | h
      · exact mem_putFold h
      · exact .inr h
theorem mem_putAll {b : Arc} : ∀ (cs l : List Arc), b ∈ putAll l cs → b ∈ l ∨ b ∈ cs
  | [], l, h => .inl h
  | c :: cs, l, h => by
    rcases mem_putAll cs (putL l c) h with h | h
    · rcases mem_putL h with h | h
      · exact .inl h
      · exact .inr (by simp [h])
    · exact .inr (by simp [h])
theorem mem_ft {α : Type} {f : Nat → List α} {i m : Nat} {a : α} (h : a ∈ ft f i m) : ∃ k, i ≤ k ∧ k < m ∧ a ∈ f k := by
  unfold ft at h
  obtain ⟨e, he, ha⟩ := List.mem_flatMap.1 h
  rw [List.mem_range] at he
  exact ⟨i + e, by omega, by omega, ha⟩
def arcGood (n : Nat) (a : Arc) : Prop := 0 ≤ a.f ∧ a.f < (2 * n + 1 : Nat) ∧ 0 ≤ a.t ∧ a.t < (2 * n + 1 : Nat) ∧ a.ops.length ≤ 1000000 ∧ 0 ≤ a.cost
theorem dels_len (n : Nat) : (dels n).length = n := by simp [dels]
theorem refArcs_good {x : Input} (hx : inOk x) (hn : x.columns.length ≤ 60) : ∀ a ∈ refArcs x, arcGood x.columns.length a := by
  obtain ⟨hd, hcs, hins, hinp, hsw0, hsw⟩ := hx
  have hdb := delC_bound hd
  intro a ha
  unfold refArcs at ha
  rcases mem_putAll _ _ ha with ha | ha
  · rcases mem_putAll _ _ ha with ha | ha
    · cases ha
    · obtain ⟨i, _, hi, ha⟩ := mem_ft ha
      unfold rI at ha
      rcases List.mem_append.1 ha with ha | ha
      · obtain ⟨m, hm1, hm2, ha⟩ := mem_ft ha
        unfold rM at ha
        rcases List.mem_append.1 ha with ha | ha
        · obtain ⟨t, _, ht, ha⟩ := mem_ft ha
          unfold rA at ha
          split at ha
          · rename_i hc
            rw [List.mem_singleton] at ha
            subst ha
            have := satA_nn (hdb i m).1 hc.2
            refine ⟨by simp only; omega, by simp only; omega, by simp only; omega, by simp only; omega, by simp [dels_len]; omega, this⟩
          · cases ha
        · unfold rS at ha
          split at ha
          · rename_i hc
            have hc' : m + 1 < x.columns.length := by simp [swapOk] at hc; exact hc.1
            rw [List.mem_singleton] at ha
            subst ha
            have := satA_nn (hdb i m).1 hsw0
            refine ⟨by simp only; omega, by simp only; omega, by simp only; omega, by simp only; omega, by simp [dels_len]; omega, this⟩
          · cases ha
      · unfold rT at ha
        split at ha
        · rename_i hc
          have hc' : i + 1 < x.columns.length := by simp [swapOk] at hc; exact hc.1
          rw [List.mem_singleton] at ha
          subst ha
          refine ⟨by simp only; omega, by simp only; omega, by simp only; omega, by simp only; omega, by simp, by simp⟩
        · cases ha
  · obtain ⟨i, _, hi, ha⟩ := mem_ft ha
    unfold iI at ha
    obtain ⟨m, hm1, hm2, ha⟩ := mem_ft ha
    unfold iM at ha
    obtain ⟨t, _, ht, ha⟩ := mem_ft ha
    unfold iT at ha
    rw [List.mem_singleton] at ha
    subst ha
    have := satA_nn (hdb i m).1 (hinp (x.insert.getD t default) (by simp [List.getD, ht])).1
    refine ⟨by simp only; omega, by simp only; omega, by simp only; omega, by simp only; omega, by simp [dels_len]; omega, this⟩
theorem refFin_nn {x : Input} (hx : inOk x) : ∀ v ∈ refFin x (2 * x.columns.length + 1), 0 ≤ v := by
  intro v hv
  obtain ⟨s, hs, rfl⟩ := List.mem_map.1 hv
  split
  · split
    · exact (delC_bound hx.1 _ _).1
    · omega
  · omega
theorem refFin_len (x : Input) (k : Nat) : (refFin x k).length = 2 * x.columns.length + 1 := by simp [refFin]
theorem refArcs_len {x : Input} (ht : x.insert.length ≤ 100) (hn : x.columns.length ≤ 60) : (refArcs x).length ≤ 900000 := by
  unfold refArcs
  have h1 := putAll_len (ft (iI x) 0 (x.columns.length + 1)) (putAll [] (ft (rI x) 0 (x.columns.length + 1)))
  have h2 := putAll_len (ft (rI x) 0 (x.columns.length + 1)) []
  have h3 := ft_len (f := iI x) (B := 7000) (fun k => iI_len x k ht hn) 0 (x.columns.length + 1)
  have h4 := ft_len (f := rI x) (B := 7000) (fun k => rI_len x k ht hn) 0 (x.columns.length + 1)
  simp at h2
  omega

abbrev g11 : DM.Spec := specP (fun ts => ∃ (x : Input) (k : Int), ts = [x.enc, ti k]) (fun | [x, .int _ k] => .bool (decide (fairP (decX x) k)) | _ => .bool false) true
abbrev g14 : DM.Spec := specP (fun ts => ∃ (x : Input) (k : Int), ts = [x.enc] ∧ fairP x k) (fun | [x] => (refBuildL (decX x)).enc | _ => .bool false) false
abbrev gS : DM.Spec := specP (fun ts => ∃ (x : Input) (p : List Int) (k : Int), ts = [x.enc, (refBuildL x).enc, .sl (intsT p)] ∧ fairP x k ∧ p.length ≤ 1000) (fun | [x, l, .sl p] => .tup [.sl (opsT (scriptL (decX x).columns.length (decL l) (decInts p)).1), ti (scriptL (decX x).columns.length (decL l) (decInts p)).2] | _ => .bool false) false
abbrev g22 : DM.Spec := specP (fun ts => ∃ a : List (Int × Int), ts = [.sl (opsT a), .sl (opsT a)] ∧ a.length ≤ 1000000000000) (fun _ => .bool true) true
theorem okL6 : EnvOk Try.prog (envOf [(10, g10), (11, g11), (14, g14), (20, gS), (21, gS), (22, g22)]) := by
  have fit : ∀ {x : Input} {k : Int}, fairP x k → arcsFit (refBuildL x).final.length (refBuildL x).arcs ∧ (∀ a ∈ (refBuildL x).arcs, 0 ≤ a.cost) ∧ (∀ v ∈ (refBuildL x).final, 0 ≤ v) ∧ 0 < (refBuildL x).final.length ∧ x.columns.length ≤ 1000000 ∧ (refBuildL x).final.length ≤ 1000000 ∧ (refBuildL x).arcs.length ≤ 1000000000 := by
    intro x k hf
    obtain ⟨h1, h2, h3, h4⟩ := fair_ok hf
    have hl : (refBuildL x).final.length = 2 * x.columns.length + 1 := refFin_len x _
    have hg := refArcs_good h1 h2
    have hal : (refBuildL x).arcs.length ≤ 900000 := refArcs_len (by omega) h2
    refine ⟨fun a ha => ?_, fun a ha => (hg a ha).2.2.2.2.2, refFin_nn h1, by omega, by omega, by omega, by omega⟩
    obtain ⟨b1, b2, b3, b4, b5, b6⟩ := hg a ha
    rw [hl]
    exact ⟨b1, b2, b3, b4, b5⟩
  refine EnvOk.cons (EnvOk.cons (EnvOk.cons (EnvOk.cons (EnvOk.cons (EnvOk.cons EnvOk.nil ?_) ?_) ?_) ?_) ?_) ?_
  · rintro ts ⟨a, rfl, h⟩
    have := t22 a a h
    exact ⟨by simpa using this, fun _ => rfl⟩
  · rintro ts ⟨x, p, k, rfl, h, hp⟩
    obtain ⟨f1, f2, f3, f4, f5, f6, f7⟩ := fit h
    exact ⟨by simpa using t21 x (refBuildL x) p f1 f2 f3 f4 f5 f6 f7 hp, fun h => by cases h⟩
  · rintro ts ⟨x, p, k, rfl, h, hp⟩
    obtain ⟨f1, f2, f3, f4, f5, f6, f7⟩ := fit h
    exact ⟨by simpa using t20 x (refBuildL x) p f1 f4 f5 f6 f7 hp, fun h => by cases h⟩
  · rintro ts ⟨x, k, rfl, h⟩
    obtain ⟨h1, h2, h3, h4⟩ := fair_ok h
    exact ⟨by simpa using t14 x h1 h2 (by omega) h4, fun h => by cases h⟩
  · rintro ts ⟨x, k, rfl⟩
    exact ⟨by simpa using t11 x k, fun _ => rfl⟩
  · rintro ts rfl
    exact ⟨t10, fun _ => rfl⟩

theorem walk_len {arcs : List Arc} {S : Nat} (hfit : arcsFit S arcs) : ∀ (l : List Int) (p : Option (Int × List (Int × Int))) (b : Nat), (∀ s o, p = some (s, o) → o.length ≤ b) → ∀ s o, l.foldl (stepW arcs) p = some (s, o) → o.length ≤ b + l.length * 1000000 := by
  intro l
  induction l with
  | nil => intro p b h s o e; have := h s o e; simp; omega
  | cons i l ih =>
    intro p b h s o e
    have := ih (stepW arcs p i) (b + 1000000) (fun s' o' e' => ?_) s o e
    · simp only [List.length_cons]; omega
    · cases p with
      | none => cases e'
      | some q =>
        obtain ⟨sq, oq⟩ := q
        have hb := h sq oq rfl
        simp only [stepW] at e'
        split at e'
        · cases e'
        · rename_i hc
          simp only [Option.some.injEq, Prod.mk.injEq] at e'
          obtain ⟨_, rfl⟩ := e'
          have hk : i.toNat < arcs.length := by omega
          have := (hfit (arcs.getD i.toNat default) (by simp [List.getD, hk])).2.2.2.2
          rw [List.length_append]
          omega
theorem script_len {l : Lattice} {S : Nat} (hfit : arcsFit S l.arcs) (hS : 0 < S) (n : Nat) (path : List Int) : (scriptL n l path).1.length ≤ path.length * 1000000 + n := by
  unfold scriptL
  cases hw : walkL l.arcs path with
  | none => simp
  | some q =>
    obtain ⟨s, out⟩ := q
    have h1 := walk_len hfit path (some (0, [])) 0 (fun s o e => by simp at e; simp [← e.2]) _ _ hw
    have h2 := walk_nn hfit path 0 [] (by omega) _ _ hw
    simp only
    split
    · simp
    · simp only [List.length_append, dels_len]
      omega
theorem fair_fit {x : Input} {k : Int} (hf : fairP x k) : arcsFit (2 * x.columns.length + 1) (refBuildL x).arcs := by
  obtain ⟨h1, h2, h3, h4⟩ := fair_ok hf
  intro a ha
  obtain ⟨b1, b2, b3, b4, b5, b6⟩ := refArcs_good h1 h2 a ha
  exact ⟨b1, b2, b3, b4, b5⟩

theorem t6 (x : Input) (path : List Int) (hp : path.length ≤ 9223372036854775807) : CallsOk Try.prog 6 [x.enc, .sl (intsT path)] (.bool true) := by
  have hΓ := okL6
  obtain ⟨cols, ins, sw⟩ := x
  obtain ⟨xt, hxt⟩ : ∃ t, (⟨cols, ins, sw⟩ : Input).enc = t := ⟨_, rfl⟩
  have hxe : T.agg [.sl (colsT cols), .sl (intsT ins), ti sw] = xt := hxt
  have hxd : decX xt = ⟨cols, ins, sw⟩ := by rw [← hxt]; simp
  refine c6.ok (by simp) (initSt_sat ?_)
  simp [Input.enc]
  refine SatD.regSeq hΓ follows [1, 2] ?_
  simp [d6r0]
  refine SatD.seq ?_
  refine SatD.regSeq hΓ follows [1, 2, 11] ?_
  simp [d6r1]
  refine SatD.cond rfl (fun h => by cases h) (fun _ => ?_)
  refine SatD.skip ?_
  simp
  refine SatD.le (Le.keep (o := []) (l := [(1, .v (.sl (intsT path))), (2, .v (.box [.sl (colsT cols), .sl (intsT ins), ti sw]))]) (nxt' := 1200) ?_ ?_ ?_ ?_) ?_
  · simp
  · simp
  · simp
  · simp
  refine SatD.seq ?_
  obtain ⟨c, hc⟩ : ∃ c : Bool, decide (¬ fairP ⟨cols, ins, sw⟩ 6 ∨ 20 < (path.length : Int)) = c := ⟨_, rfl⟩
  refine SatD.regToS hΓ follows [(1, .v (.sl (intsT path))), (2, .v (.box [.sl (colsT cols), .sl (intsT ins), ti sw])), (19, .v (.bool c))] ?_ ?_
  · by_cases q1 : fairP ⟨cols, ins, sw⟩ 6
    · by_cases q2 : 20 < (path.length : Int)
      · have hc' : c = true := by rw [← hc]; simp [q2]
        simp [d6r3, hxe, hxd, q1, q2, hc']
        exact ⟨_, hxt.symm⟩
      · have hc' : c = false := by rw [← hc]; simp [q1, q2]
        simp [d6r3, hxe, hxd, q1, q2, hc']
        exact ⟨_, hxt.symm⟩
    · have hc' : c = true := by rw [← hc]; simp [q1]
      simp [d6r3, hxe, hxd, q1, hc']
      exact ⟨_, hxt.symm⟩
  refine SatD.cond rfl (fun h => ?_) (fun h => ?_)
  · refine SatD.regSeq hΓ follows [4] ?_
    simp [d6r4]
    refine SatD.ret ?_
    simp [d6res]
  · rw [h] at hc
    simp only [decide_eq_false_iff_not, not_or, Classical.not_not] at hc
    obtain ⟨hf, hpl⟩ := hc
    refine SatD.skip ?_
    simp
    obtain ⟨l, hl⟩ : ∃ l, refBuildL ⟨cols, ins, sw⟩ = l := ⟨_, rfl⟩
    obtain ⟨s0, arcs, fin⟩ := l
    obtain ⟨lt, hlt⟩ : ∃ t, (⟨s0, arcs, fin⟩ : Lattice).enc = t := ⟨_, rfl⟩
    have hle : T.agg [ti s0, .sl (arcsT arcs), .sl (intsT fin)] = lt := hlt
    have hld : decL lt = ⟨s0, arcs, fin⟩ := by rw [← hlt]; simp
    refine SatD.regSeq hΓ follows [1, 2, 5] ?_
    simp [d6r5, hxe, hxd, hl, Lattice.enc]
    refine ⟨⟨⟨cols, ins, sw⟩, hxt.symm, 6, hf⟩, ?_⟩
    refine SatD.le (Le.keep (o := []) (l := [(1, .v (.sl (intsT path))), (2, .v (.box [.sl (colsT cols), .sl (intsT ins), ti sw])), (5, .v (.box [ti s0, .sl (arcsT arcs), .sl (intsT fin)]))]) (nxt' := 2200) ?_ ?_ ?_ ?_) ?_
    · simp
    · simp
    · simp
    · simp
    obtain ⟨r, hr⟩ : ∃ r, scriptL cols.length ⟨s0, arcs, fin⟩ path = r := ⟨_, rfl⟩
    have hpre : ∃ (a : Input) (p : List Int), (xt = a.enc ∧ lt = (refBuildL a).enc ∧ intsT path = intsT p) ∧ (∃ k, fairP a k) ∧ p.length ≤ 1000 := ⟨⟨cols, ins, sw⟩, path, ⟨hxt.symm, by rw [hl, hlt], rfl⟩, ⟨6, hf⟩, by omega⟩
    refine SatD.regSeq hΓ follows [1, 2, 5, 6, 7] ?_
    simp [d6r6, hxe, hxd, hle, hld, hr]
    refine ⟨hpre, ?_⟩
    refine SatD.regSeq hΓ follows [6, 7, 8, 9] ?_
    simp [d6r7, hxe, hxd, hle, hld, hr]
    refine ⟨hpre, ?_⟩
    have hrl : r.1.length ≤ 1000000000000 := by
      have h1 := script_len (l := ⟨s0, arcs, fin⟩) (by rw [← hl]; exact fair_fit hf) (by omega) cols.length path
      have h2 := (fair_ok hf).2.1
      rw [hr] at h1
      simp only at h2
      omega
    refine SatD.regSeq hΓ follows [4] ?_
    simp [d6r8]
    refine ⟨⟨r.1, rfl, hrl⟩, ?_⟩
    refine SatD.ret ?_
    simp [d6res]
end Go.Proofs
