import Derived.Test.YtecgedikabjcdaaI2
namespace Go.Proofs
open Go.DM
set_option linter.unusedSimpArgs false
set_option linter.unusedVariables false

theorem pre_le {st : Int} {a : Nat} : ∀ b : Nat, a ≤ b → (b : Int) ≤ st → pre st a ≤ pre st b
  | 0, h, _ => by
    have : a = 0 := by omega
    subst this; exact Int.le_refl _
  | b + 1, h, hb => by
    by_cases e : a = b + 1
    · subst e; exact Int.le_refl _
    · have := pre_le (st := st) (a := a) b (by omega) (by omega)
      simp only [pre]
      omega
theorem pre_lt {st : Int} {a b : Nat} (h : a < b) (hb : (b : Int) ≤ st) : pre st a + st - a ≤ pre st b := by
  have := pre_le (st := st) (a := a + 1) b h hb
  simpa [pre] using this
theorem pre_closed (st : Int) : ∀ n : Nat, 2 * pre st n = 2 * (n * st) - n * (n - 1)
  | 0 => by simp [pre]
  | n + 1 => by
    have ih := pre_closed st n
    simp only [pre]
    have e1 : ((n + 1 : Nat) : Int) * st = n * st + st := by rw [Int.natCast_add, Int.add_mul]; simp
    have e2 : ((n + 1 : Nat) : Int) * (((n + 1 : Nat) : Int) - 1) = n * (n - 1) + 2 * n := by
      have : ((n + 1 : Nat) : Int) - 1 = n := by omega
      rw [this, Int.natCast_add, Int.add_mul, Int.mul_sub]
      simp; omega
    rw [e1, e2]
    omega
/-- The number of a span. -/
def spanI (st f t : Int) : Int := pre st f.toNat + t - f
theorem idx_eq {nt st h f t : Int} (hf : 0 ≤ f) : idxI nt st h f t = spanI st f t * nt + h := by
  have := pre_closed st f.toNat
  have e : (f.toNat : Int) = f := by omega
  rw [e] at this
  unfold idxI spanI
  have : f * st - f * (f - 1) / 2 = pre st f.toNat := by omega
  rw [this]
theorem goal_eq {nt st : Int} (hs : 0 ≤ st) : goalI nt st = pre st st.toNat * nt := by
  have := pre_closed st st.toNat
  have e : (st.toNat : Int) = st := by omega
  rw [e] at this
  unfold goalI
  have h2 : st * (st + 1) = 2 * pre st st.toNat := by
    rw [Int.mul_add, Int.mul_one]
    rw [Int.mul_sub, Int.mul_one] at this
    omega
  rw [Int.mul_assoc, h2, ← Int.mul_assoc, Int.mul_comm nt 2, Int.mul_assoc, Int.mul_ediv_cancel_left _ (by omega), Int.mul_comm]

theorem span_pos {st f t : Int} (h1 : st ≤ 1000) (hf : 0 ≤ f) (hft : f ≤ t) (ht : t < st) : 0 ≤ spanI st f t ∧ spanI st f t < pre st st.toNat ∧ pre st st.toNat ≤ 1000000 := by
  have b := pre_bound h1 f.toNat (by omega)
  have b2 := pre_bound h1 st.toNat (by omega)
  have l := pre_lt (st := st) (a := f.toNat) (b := st.toNat) (by omega) (by omega)
  unfold spanI
  omega
theorem span_lt {st f t s u : Int} (hs : 0 ≤ s) (hf : s < f) (hfs : f ≤ st) (hft : f ≤ t) (hu : u < st) : spanI st s u < spanI st f t := by
  have l := pre_lt (st := st) (a := s.toNat) (b := f.toNat) (by omega) (by omega)
  unfold spanI
  omega

theorem divmod {x nt h : Int} (h1 : 0 ≤ h) (h2 : h < nt) : (x * nt + h) / nt = x ∧ (x * nt + h) % nt = h := by
  rw [Int.ediv_emod_unique (by omega)]
  exact ⟨by rw [Int.mul_comm nt x]; omega, h1, h2⟩

/-- Every number below the goal is that of an item. -/
theorem item_of {nt st i : Int} (h : sm nt st) (hi : 0 ≤ i) (hg : i < goalI nt st) : ∃ hd f t, isItem nt st hd f t ∧ i = spanI st f t * nt + hd := by
  obtain ⟨h1, h2, h3, h4⟩ := h
  rw [goal_eq h3] at hg
  have hnt : 0 < nt := by
    by_cases e : nt = 0
    · subst e; simp at hg; omega
    · omega
  have hd : i / nt * nt + i % nt = i := by rw [Int.mul_comm]; exact Int.mul_ediv_add_emod i nt
  have hm := Int.emod_nonneg i (show nt ≠ 0 by omega)
  have hm2 := Int.emod_lt_of_pos i hnt
  have hq : 0 ≤ i / nt := Int.ediv_nonneg hi h1
  have hq2 : i / nt < pre st st.toNat := Int.ediv_lt_of_lt_mul hnt hg
  have key : ∀ n : Nat, (n : Int) ≤ st → ∀ q, 0 ≤ q → q < pre st n → ∃ f t, 0 ≤ f ∧ f ≤ t ∧ t < st ∧ q = spanI st f t := by
    intro n
    induction n with
    | zero => intro _ q h0 hq; simp [pre] at hq; omega
    | succ n ih =>
      intro hn q h0 hq
      by_cases hlt : q < pre st n
      · exact ih (by omega) q h0 hlt
      · refine ⟨n, q - pre st n + n, by omega, by omega, ?_, ?_⟩
        · simp only [pre] at hq; omega
        · simp [spanI]; omega
  obtain ⟨f, t, k1, k2, k3, k4⟩ := key st.toNat (by omega) (i / nt) hq hq2
  refine ⟨i % nt, f, t, ?_, by rw [← k4]; exact hd.symm⟩
  unfold isItem
  omega

theorem goal_bound {nt st : Int} (h : sm nt st) : 0 ≤ goalI nt st ∧ goalI nt st ≤ 1000000000 := by
  obtain ⟨h1, h2, h3, h4⟩ := h
  rw [goal_eq h3]
  have b := pre_bound h4 st.toNat (by omega)
  have := mul_bound (a := pre st st.toNat) (m := 1000000) b.1 (by omega) h1 h2
  omega

theorem idx_lt {nt st hd f t : Int} (h : sm nt st) (hi : isItem nt st hd f t) : 0 ≤ spanI st f t * nt + hd ∧ spanI st f t * nt + hd < goalI nt st := by
  obtain ⟨h1, h2, h3, h4⟩ := h
  unfold isItem at hi
  rw [goal_eq h3]
  have b := span_pos (st := st) (f := f) (t := t) h4 (by omega) (by omega) (by omega)
  have g1 := Int.mul_nonneg b.1 h1
  have g2 : (spanI st f t + 1) * nt ≤ pre st st.toNat * nt := Int.mul_le_mul_of_nonneg_right (by omega) h1
  rw [Int.add_mul] at g2
  omega

theorem t16a (n : Normal) (l : Lattice) (h f t : Int) (hs : sm n.nonterms l.states) (hi : isItem n.nonterms l.states h f t) :
    CallsOk Try.prog 16 [n.enc, l.enc, ti (spanI l.states f t * n.nonterms + h)] (.tup [.agg [ti h, ti f, ti t], .bool true]) := by
  have hΓ := ok1
  have hr := idx_lt hs hi
  have hgb := goal_bound hs
  have hi' := hi
  unfold isItem at hi'
  have hs' := hs
  obtain ⟨h1, h2, h3, h4⟩ := hs'
  have hdm := divmod (x := spanI l.states f t) (nt := n.nonterms) (h := h) (by omega) (by omega)
  have hsp := span_pos (st := l.states) (f := f) (t := t) h4 (by omega) (by omega) (by omega)
  generalize hii : spanI l.states f t * n.nonterms + h = i at *
  refine c16.ok (by simp) (initSt_sat ?_)
  simp [Normal.enc, Lattice.enc]
  refine SatD.regSeq hΓ follows [2, 3, 4, 6] ?_
  simp [d16r0]
  refine SatD.seq ?_
  refine SatD.regSeq hΓ follows [2, 3, 4, 6, 19] ?_
  simp [d16r1, Γ1, spec32, spec33, fn32, fn33, pre33]
  refine ⟨fun _ => ⟨⟨n, l, rfl⟩, hs, ?_⟩, fun hc => by omega⟩
  refine SatD.cond (by simp; rfl) (fun hc => ?_) (fun hc => ?_)
  · simp at hc; omega
  · refine SatD.skip ?_
    simp
    refine SatD.regSeq hΓ follows [2, 3, 4, 6, 8] ?_
    simp [d16r3]
    refine ⟨by omega, ?_⟩
    rw [Int.tdiv_eq_ediv_of_nonneg hr.1, hdm.1, wrap_id (by omega)]
    refine SatD.regSeq hΓ follows [2, 3, 4, 6, 8, 9] ?_
    simp [d16r4]
    refine SatD.seq ?_
    refine SatD.block ?_ -- 0
    refine SatD.loop (fun y : Nat => ⟨DM.look [(2, .v (ti i)), (3, .ptr 1004 0), (4, .ptr 1005 0), (6, .ptr 1007 0), (8, .v (ti (spanI l.states f t - pre l.states y))), (9, .v (ti y))],
        obs [(1007, .box [.v (ti 0), .v (ti 0), .v (ti 0)]), (1005, .box [.v (ti l.states), .v (.sl (arcsT l.arcs)), .v (.sl (intsT l.final))]), (1004, .box [.v (ti n.terms), .v (ti n.nonterms), .v (ti n.start), .v (.sl (rulesT n.rules))])], 2000, 1000, []⟩)
      (fun y => (y : Int) ≤ f) (fun y => f.toNat - y) 0 (Le.keep ?_ ?_ ?_ ?_) (by simp; omega) (fun y hy => ?_)
    · simp
    · simp
    · simp
    · simp [pre]
    have hb := pre_bound h4 y (by omega)
    have hsf : y < f.toNat → pre l.states y + l.states - y ≤ pre l.states f.toNat := fun e => pre_lt e (by omega)
    have hspan : spanI l.states f t = pre l.states f.toNat + t - f := rfl
    refine SatD.seq ?_
    refine SatD.regSeq hΓ follows [2, 3, 4, 6, 8, 9, 30] ?_
    simp [d16r5]
    rw [wrap_id (x := l.states - (y : Int)) (by omega)]
    refine SatD.cond (by simp; rfl) (fun hc => ?_) (fun hc => ?_)
    · refine SatD.skip ?_
      simp at hc
      simp
      have hlt : y < f.toNat := by
        by_cases e : y = f.toNat
        · subst e
          omega
        · omega
      refine SatD.block ?_ -- 1
      refine SatD.regSeq hΓ follows [2, 3, 4, 6, 8, 9] ?_
      simp [d16r6]
      refine SatD.reg hΓ follows [2, 3, 4, 6, 8, 9] ?_
      simp [d16r7]
      refine ⟨y + 1, Le.keep ?_ ?_ ?_ ?_, ?_, ?_⟩
      · simp
      · simp
      · simp
      · simp [pre]
        simp (disch := omega) only [wrap_id]
        exact ⟨by omega, trivial⟩
      · omega
      · omega
    · refine SatD.exit ?_
      simp at hc
      simp
      have hyf : y = f.toNat := by
        by_cases e : y < f.toNat
        · have := hsf e
          omega
        · omega
      subst hyf
      refine SatD.regSeq hΓ follows [6, 7] ?_
      simp [d16r8]
      refine ⟨by omega, ?_⟩
      refine SatD.ret ?_
      simp [d16res]
      rw [Int.tmod_eq_emod_of_nonneg hr.1, hdm.2, wrap_id (by omega)]
      omega

theorem t16b (n : Normal) (l : Lattice) (i : Int) (hs : sm n.nonterms l.states) (hi : i < 0 ∨ goalI n.nonterms l.states ≤ i) :
    CallsOk Try.prog 16 [n.enc, l.enc, ti i] (.tup [.agg [ti 0, ti 0, ti 0], .bool false]) := by
  have hΓ := ok1
  refine c16.ok (by simp) (initSt_sat ?_)
  simp [Normal.enc, Lattice.enc]
  refine SatD.regSeq hΓ follows [2, 3, 4, 6] ?_
  simp [d16r0]
  refine SatD.seq ?_
  refine SatD.regSeq hΓ follows [2, 3, 4, 6, 19] ?_
  simp [d16r1, Γ1, spec32, spec33, fn32, fn33, pre33]
  refine ⟨fun _ => ⟨⟨n, l, rfl⟩, hs, ?_⟩, fun hc => ?_⟩
  all_goals
    refine SatD.cond (by simp; rfl) (fun hc => ?_) (fun hc => ?_)
    · refine SatD.regSeq hΓ follows [6, 7] ?_
      simp [d16r2]
      refine SatD.ret ?_
      simp [d16res]
    · simp at hc <;> omega
end Go.Proofs
