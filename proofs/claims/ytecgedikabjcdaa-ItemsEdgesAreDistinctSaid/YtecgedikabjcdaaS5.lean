import Derived.Test.YtecgedikabjcdaaS4
import Derived.Test.YtecgedikabjcdaaDmW
namespace Go.Proofs
open Go.DM Go.DM.Srt
set_option linter.unusedSimpArgs false
set_option linter.unusedVariables false

def k49 (good : List T → Prop) (cmpF : List T → List T → Int) : List DV → Obs → SRes
  | [.aref r ver, .v (.int .i64 a), .v (.int .i64 b), .v (.fn (.func c) caps)], objs => match objs r with
    | some (.arr ver' e sz D) => ⟨ver = ver' ∧ sz = 5 ∧ c = 36 ∧ caps = [] ∧ (∀ x ∈ D, good x) ∧ 0 ≤ a ∧ a ≤ b ∧ b ≤ D.length ∧ D.length ≤ 140737488355328,
        .v (.tup []), setO objs r (.arr ver e 5 (sortAt (ltF cmpF) D a.toNat b.toNat))⟩
    | _ => ⟨False, .undef, objs⟩
  | [.nil0, .v (.int .i64 a), .v (.int .i64 b), .v (.fn (.func c) caps)], objs => ⟨a = 0 ∧ b = 0, .v (.tup []), objs⟩
  | _, objs => ⟨False, .undef, objs⟩
def Γ48 (good : List T → Prop) (cmpF : List T → List T → Int) (F : Nat) : Env := envOf [(49, specS (k49 good cmpF)), (50, specS (k50 good cmpF F)), (51, specS k51), (36, cmpSpec good cmpF)]

theorem t49n (objs : Obs) (f : T) {N : Nat} (hN : ∀ r, N ≤ r → objs r = none) : CallsS Try.prog 49 [.nil0, .v (ti 0), .v (ti 0), .v f] objs ⟨True, .v (.tup []), objs⟩ := by
  have hΓ : EnvOk Try.prog (envOf []) := EnvOk.nil
  refine c49.okS hN (by simp) (initS_sat ?_)
  simp
  refine SatD.regSeq hΓ follows [2, 8] ?_
  simp [d49r0]
  refine SatD.block ?_ -- 0
  refine SatD.loop (fun y : Nat => ⟨DM.look [(2, .v (ti 0)), (8, .v (ti 1))], objs, N + 1000, N, []⟩) (fun _ => True) (fun _ => 0) 0 (Le.same (fun k hk => hN k (by omega)) (by simp)) trivial (fun y hy => ?_)
  refine SatD.seq ?_
  refine SatD.regSeq hΓ follows [14] ?_
  simp [d49r1]
  refine SatD.cond rfl (fun h => by cases h) (fun _ => ?_)
  refine SatD.exit ?_
  simp [d49res]

theorem ok49 {good : List T → Prop} {cmpF : List T → List T → Int} (hc : CmpOk good cmpF 36 5) (hw : SWO (ltF cmpF)) (F : Nat) : EnvOk Try.prog (Γ48 good cmpF F) := by
  refine EnvOk.consS (ok50 hc hw F) ?_
  intro args objs h
  unfold k49 at h ⊢
  split at h
  · split at h
    · rename_i a b c caps _ ver' e sz D hob
      obtain ⟨rfl, rfl, rfl, rfl, h1, h2, h3, h4, h5⟩ := h
      have ea : a = (a.toNat : Int) := by omega
      have eb : b = (b.toNat : Int) := by omega
      refine ⟨fun N hN => ?_, fun k hk => setO_none hob hk⟩
      have := t49 hc D a.toNat b.toNat objs _ _ e hob h1 (by omega) (by omega) h5 hN
      rw [← ea, ← eb] at this
      simp only [hob]
      exact this.of rfl rfl
    · exact h.elim
  · obtain ⟨rfl, rfl⟩ := h
    exact ⟨fun N hN => (t49n objs _ hN).of rfl rfl, fun _ h => h⟩
  · exact h.elim

structure KD where
  k : Nat
  D : List (List T)
structure BD where
  b : Nat
  D : List (List T)

set_option maxRecDepth 20000 in
set_option maxHeartbeats 4000000 in
theorem t48 {good : List T → Prop} {cmpF : List T → List T → Int} (hc : CmpOk good cmpF 36 5) (hw : SWO (ltF cmpF))
    (D : List (List T)) (objs : Obs) (r ver e : Nat) (hob : objs r = some (.arr ver e 5 D)) (hrows : ∀ x ∈ D, good x) (h4 : D.length ≤ 140737488355328)
    {N : Nat} (hN : ∀ r, N ≤ r → objs r = none) : CallsS Try.prog 48 [.aref r ver, .v (ti D.length), .v (.fn (.func 36) [])] objs ⟨True, .v (.tup []), setO objs r (.arr ver e 5 (isort (ltF cmpF) D))⟩ := by
  have hΓ := ok49 hc hw (D.length + 1)
  have hfr : ∀ o k, N + 1000 ≤ k → setO objs r o k = none := fun o k hk => setO_none hob (hN k (by omega))
  obtain ⟨lt, hlt⟩ : ∃ lt : List T → List T → Bool, ltF cmpF = lt := ⟨_, rfl⟩
  rw [hlt] at hw ⊢
  refine c48.okS hN (by simp) (initS_sat ?_)
  rw [setO_self hob]
  simp
  obtain ⟨n, hn⟩ : ∃ n, D.length = n := ⟨_, rfl⟩
  obtain ⟨RR, hRR⟩ : ∃ RR, isort lt D = RR := ⟨_, rfl⟩
  have same : ∀ D' : List (List T), isort lt D' = RR → (∀ x ∈ D', good x) ∧ D'.length = n := by
    intro D' h
    refine ⟨fun x hx => hrows x ?_, ?_⟩
    · have : x ∈ isort lt D' := by simpa using hx
      rw [h, ← hRR] at this
      simpa using this
    · have := isort_length (lt := lt) D'
      rw [h, ← hRR, isort_length] at this
      omega
  have same2 : ∀ (D' : List (List T)) (a b : Nat), isort lt D' = RR → a ≤ b → isort lt (sortAt lt D' a b) = RR := fun D' a b h hab => by rw [isort_sortAt hw hab, h]
  rw [hn, hRR]
  refine SatD.regSeq hΓ follows [0, 1, 2, 6] ?_
  simp [d48r0]
  refine SatD.regSeq hΓ follows [0, 1, 2, 6, 7, 8] ?_
  simp [d48r1]
  refine SatD.seq ?_
  refine SatD.block ?_ -- 0
  refine SatD.loop (fun y : KD => ⟨DM.look [(0, .aref r ver), (1, .v (ti n)), (2, .v (.fn (.func 36) [])), (6, .v (ti 20)), (7, .v (ti ((20 * y.k : Nat) : Int))), (8, .v (ti ((20 * y.k + 20 : Nat) : Int)))], setO objs r (.arr ver e 5 y.D), N + 1000, N, []⟩)
    (fun y => 20 * y.k ≤ n ∧ isort lt y.D = RR ∧ Blocks lt y.D 20 (fun j => j < y.k)) (fun y => n - 20 * y.k) ⟨0, D⟩ ?_ ⟨by simp, hRR, fun j hj => by simp at hj⟩ (fun y hy => ?_)
  · exact Le.same (hfr _) (by simp)
  obtain ⟨k, D1⟩ := y
  obtain ⟨hk, hs, hb⟩ := hy
  simp only at hk hs hb ⊢
  obtain ⟨g1, l1⟩ := same D1 hs
  refine SatD.seq ?_
  obtain ⟨a, ha⟩ : ∃ a, 20 * k = a := ⟨_, rfl⟩
  rw [ha] at hk ⊢
  refine SatD.regSeq hΓ follows [0, 1, 2, 6, 7, 8, 13] ?_
  simp [d48r2]
  refine SatD.cond rfl (fun h => ?_) (fun h => ?_)
  · simp at h
    refine SatD.skip ?_
    simp
    refine SatD.block ?_ -- 1
    refine SatD.regASeq hΓ follows (rs := d48r3S) (.inr ⟨_, rfl⟩) (by kernel_rfl) [0, 1, 2, 6, 8] ?_
    simp [d48r3S, Γ48, k49, hlt]
    refine ⟨⟨g1, by omega, by omega⟩, ?_⟩
    refine SatD.regSeq hΓ follows [0, 1, 2, 6, 7, 8] ?_
    simp [d48r4]
    refine SatD.reg hΓ follows [0, 1, 2, 6, 7, 8] ?_
    simp [d48r5]
    refine ⟨⟨k + 1, sortAt lt D1 a (a + 20)⟩, ?_, ⟨by simp only; omega, same2 _ _ _ hs (by omega), fun j hj => ?_⟩, by simp only; omega⟩
    · have : ((a : Int) + 20).toNat = a + 20 := by omega
      simp only [this]
      refine Le.same (hfr _) ?_
      simp
      rw [wrap_id (by omega)]
      omega
    · simp only at hj
      by_cases e : j = k
      · subst e
        rw [show j * 20 = a by omega, seg_sortAt_self (by omega) (by omega)]
        exact isort_sorted hw _
      · rw [seg_sortAt_other (by omega) (by omega) (.inl (by omega))]
        exact hb j (by omega)
  simp at h
  refine SatD.exit ?_
  simp
  refine SatD.regASeq hΓ follows (rs := d48r6S) (.inr ⟨_, rfl⟩) (by kernel_rfl) [0, 1, 2, 6] ?_
  simp [d48r6S, Γ48, k49, hlt]
  refine ⟨⟨g1, by omega, by omega⟩, ?_⟩
  obtain ⟨D2, hD2⟩ : ∃ D2, sortAt lt D1 a n = D2 := ⟨_, rfl⟩
  rw [hD2]
  have hs2 : isort lt D2 = RR := by rw [← hD2]; exact same2 _ _ _ hs (by omega)
  have l2 : D2.length = n := (same D2 hs2).2
  have hb2 : Blocks lt D2 20 (fun _ => True) := by
    intro j _
    by_cases e : j * 20 < a
    · rw [← hD2, seg_sortAt_other (by omega) (by omega) (.inl (by omega))]
      exact hb j (by omega)
    · by_cases e2 : j * 20 = a
      · rw [e2, seg_end (by omega), ← seg_end (i := a) (j := n) (by omega), ← hD2, seg_sortAt_self (by omega) (by omega)]
        exact isort_sorted hw _
      · have : seg D2 (j * 20) (j * 20 + 20) = [] := List.eq_nil_of_length_eq_zero (by simp; omega)
        rw [this]; exact List.Pairwise.nil
  clear hD2 hb hs g1 l1
  refine SatD.block ?_ -- 2
  refine SatD.loop (fun y : BD => ⟨DM.look [(0, .aref r ver), (1, .v (ti n)), (2, .v (.fn (.func 36) [])), (6, .v (ti y.b))], setO objs r (.arr ver e 5 y.D), N + 1000, N, []⟩)
    (fun y => 0 < y.b ∧ isort lt y.D = RR ∧ Blocks lt y.D y.b (fun _ => True)) (fun y => n - y.b) ⟨20, D2⟩ ?_ ⟨by simp, hs2, hb2⟩ (fun y hy => ?_)
  · exact Le.same (hfr _) (by simp)
  obtain ⟨bs, D3⟩ := y
  obtain ⟨hbs, hs3, hb3⟩ := hy
  simp only at hbs hs3 hb3 ⊢
  obtain ⟨g3, l3⟩ := same D3 hs3
  refine SatD.seq ?_
  refine SatD.regSeq hΓ follows [0, 1, 2, 6, 30] ?_
  simp [d48r7]
  refine SatD.cond rfl (fun h2 => ?_) (fun h2 => ?_)
  · simp at h2
    have w1 : IntKind.i64.wrap (2 * (bs : Int)) = ((2 * bs : Nat) : Int) := by rw [wrap_id (by omega)]; omega
    refine SatD.skip ?_
    simp
    refine SatD.block ?_ -- 3
    refine SatD.regSeq hΓ follows [0, 1, 2, 6, 7, 8] ?_
    simp [d48r8, w1]
    refine SatD.seq ?_
    refine SatD.block ?_ -- 4
    refine SatD.loop (fun y : KD => ⟨DM.look [(0, .aref r ver), (1, .v (ti n)), (2, .v (.fn (.func 36) [])), (6, .v (ti bs)), (7, .v (ti ((y.k * (2 * bs) : Nat) : Int))), (8, .v (ti ((y.k * (2 * bs) + 2 * bs : Nat) : Int)))], setO objs r (.arr ver e 5 y.D), N + 1000, N, []⟩)
      (fun y => y.k * (2 * bs) ≤ n ∧ isort lt y.D = RR ∧ Blocks lt y.D (2 * bs) (fun j => j < y.k) ∧ Blocks lt y.D bs (fun j => y.k * (2 * bs) ≤ j * bs)) (fun y => n - y.k * (2 * bs)) ⟨0, D3⟩ ?_ ⟨by simp, hs3, fun j hj => by simp at hj, fun j _ => hb3 j trivial⟩ (fun y hy => ?_)
    · exact Le.same (hfr _) (by simp)
    obtain ⟨k, D4⟩ := y
    obtain ⟨hk, hs4, hb4, hc4⟩ := hy
    simp only at hk hs4 hb4 hc4 ⊢
    obtain ⟨g4, l4⟩ := same D4 hs4
    have e2 : 2 * k * bs = k * (2 * bs) := by rw [Nat.mul_comm 2 k, Nat.mul_assoc]
    have e3 : (2 * k + 1) * bs = k * (2 * bs) + bs := by rw [Nat.add_mul, e2, Nat.one_mul]
    have hA := hc4 (2 * k) (by simp only; omega)
    have hB := hc4 (2 * k + 1) (by simp only; omega)
    rw [e2] at hA
    rw [e3] at hB
    obtain ⟨a, ha⟩ : ∃ a, k * (2 * bs) = a := ⟨_, rfl⟩
    simp only [ha] at hk hA hB hc4 ⊢
    refine SatD.seq ?_
    refine SatD.regSeq hΓ follows [0, 1, 2, 6, 7, 8, 35] ?_
    simp [d48r9]
    refine SatD.cond rfl (fun h3 => ?_) (fun h3 => ?_)
    · simp at h3
      have w2 : IntKind.i64.wrap ((a : Int) + bs) = ((a + bs : Nat) : Int) := by rw [wrap_id (by omega)]; omega
      refine SatD.skip ?_
      simp
      refine SatD.block ?_ -- 5
      refine SatD.regASeq hΓ follows (rs := d48r10S) (.inr ⟨_, rfl⟩) (by kernel_rfl) [0, 1, 2, 6, 8] ?_
      have tn : ((a : Int) + 2 * (bs : Int)).toNat = a + 2 * bs := by omega
      simp [d48r10S, Γ48, k50, hlt, w2, tn]
      refine ⟨⟨g4, by omega, by omega, by omega, by omega, by omega, hA, by rw [show a + 2 * bs = a + bs + bs by omega]; exact hB⟩, ?_⟩
      refine SatD.regSeq hΓ follows [0, 1, 2, 6, 7, 8] ?_
      simp [d48r11]
      refine SatD.reg hΓ follows [0, 1, 2, 6, 7, 8] ?_
      simp [d48r12, w1]
      have e4 : (k + 1) * (2 * bs) = a + 2 * bs := by rw [Nat.add_mul, ha, Nat.one_mul]
      refine ⟨⟨k + 1, sortAt lt D4 a (a + 2 * bs)⟩, ?_, ⟨by simp only [e4]; omega, same2 _ _ _ hs4 (by omega), fun j hj => ?_, fun j hj => ?_⟩, by simp only [e4]; omega⟩
      · simp only [e4]
        refine Le.same (hfr _) ?_
        have e4' : ((k : Int) + 1) * (2 * (bs : Int)) = (a : Int) + 2 * bs := by exact_mod_cast e4
        simp [e4']
        rw [wrap_id (by omega)]
      · simp only at hj
        by_cases e : j = k
        · subst e
          rw [ha, seg_sortAt_self (by omega) (by omega)]
          exact isort_sorted hw _
        · have := mul_lt_of (bs := 2 * bs) (show j < k by omega)
          rw [seg_sortAt_other (by omega) (by omega) (.inl (by omega))]
          exact hb4 j (by simp only; omega)
      · simp only [e4] at hj
        rw [seg_sortAt_other (by omega) (by omega) (.inr (by omega))]
        exact hc4 j (by simp only; omega)
    · simp at h3
      refine SatD.exit ?_
      simp
      have w2 : IntKind.i64.wrap ((a : Int) + bs) = ((a + bs : Nat) : Int) := by rw [wrap_id (by omega)]; omega
      refine SatD.seq ?_
      refine SatD.regSeq hΓ follows [0, 1, 2, 6, 7, 9] ?_
      simp [d48r13, w2]
      refine SatD.regSeq hΓ follows [0, 1, 2, 6, 7, 9, 54] ?_
      simp [d48r14]
      obtain ⟨D5, hD5⟩ : ∃ D5, (if a + bs < n then sortAt lt D4 a n else D4) = D5 := ⟨_, rfl⟩
      have hs5 : isort lt D5 = RR := by
        rw [← hD5]
        split
        · exact same2 _ _ _ hs4 (by omega)
        · exact hs4
      have l5 : D5.length = n := (same D5 hs5).2
      have hb5 : Blocks lt D5 (2 * bs) (fun _ => True) := by
        intro j _
        by_cases e : j < k
        · have := mul_lt_of (bs := 2 * bs) e
          rw [← hD5]
          split
          · rw [seg_sortAt_other (by omega) (by omega) (.inl (by omega))]; exact hb4 j e
          · exact hb4 j e
        · by_cases e5 : j = k
          · subst e5
            rw [ha, seg_end (by omega)]
            rw [← seg_end (i := a) (j := n) (by omega), ← hD5]
            split
            · rw [seg_sortAt_self (by omega) (by omega)]; exact isort_sorted hw _
            · rw [seg_end (by omega), ← seg_end (i := a) (j := a + bs) (by omega)]; exact hA
          · have := mul_lt_of (bs := 2 * bs) (show k < j by omega)
            have : seg D5 (j * (2 * bs)) (j * (2 * bs) + 2 * bs) = [] := List.eq_nil_of_length_eq_zero (by simp; omega)
            rw [this]; exact List.Pairwise.nil
      refine SatD.to ⟨DM.look [(0, .aref r ver), (1, .v (ti n)), (2, .v (.fn (.func 36) [])), (6, .v (ti bs))], setO objs r (.arr ver e 5 D5), N + 1000, N, []⟩ ?_ ?_
      · refine SatD.cond rfl (fun h5 => ?_) (fun h5 => ?_)
        · simp at h5
          refine SatD.regA hΓ follows (rs := d48r15S) (.inr ⟨_, rfl⟩) (by kernel_rfl) [0, 1, 2, 6] ?_
          have tn : ((a : Int) + (bs : Int)).toNat = a + bs := by omega
          simp [d48r15S, Γ48, k50, hlt, tn]
          refine ⟨⟨g4, by omega, by omega, by omega, by omega, by omega, hA, ?_⟩, ?_⟩
          · rw [seg_end (by omega), ← seg_end (i := a + bs) (j := a + bs + bs) (by omega)]; exact hB
          · rw [if_pos (by omega)] at hD5
            rw [hD5]
            exact Le.same (hfr _) (by simp)
        · simp at h5
          rw [if_neg (by omega)] at hD5
          rw [hD5]
          refine SatD.skip ⟨rfl, ?_⟩
          exact Le.same (hfr _) (by simp)
      · simp
        refine SatD.reg hΓ follows [0, 1, 2, 6] ?_
        simp [d48r16]
        refine ⟨⟨2 * bs, D5⟩, ?_, ⟨by simp only; omega, hs5, hb5⟩, by simp only; omega⟩
        refine Le.same (hfr _) ?_
        simp
        rw [wrap_id (by omega)]; omega
  · simp at h2
    have : D3 = RR := by
      rw [← hs3]
      refine (isort_of_sorted hw ?_).symm
      have := hb3 0 trivial
      rw [Nat.zero_mul, Nat.zero_add, seg_end (by omega), List.drop_zero] at this
      exact this
    refine SatD.exit ?_
    simp [d48res, this]
end Go.Proofs
