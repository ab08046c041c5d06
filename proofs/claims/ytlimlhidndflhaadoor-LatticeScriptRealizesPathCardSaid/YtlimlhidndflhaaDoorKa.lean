/- Comparisons of keys; lengths in bits; products. Conditions: none. -/
import Derived.Test.YtlimlhidndflhaaDoorJa
import Derived.Test.YtlimlhidndflhaaDoorMe
namespace Go.Proofs
open Go.DM
set_option linter.unusedSectionVars false
variable [Laid]
set_option linter.unusedSimpArgs false
set_option linter.unusedVariables false
theorem okE : EnvOk Tryd.prog (envOf []) := EnvOk.nil

def cmpI (a b : Int) : Int := if a < b then -1 else if b < a then 1 else 0
def orI (l : List Int) : Int := (l.find? fun x => x != 0).getD 0
def cmpKey (x y : List T) : Int := orI [cmpI (unti (x.getD 0 (ti 0))) (unti (y.getD 0 (ti 0))), cmpI (unti (x.getD 1 (ti 0))) (unti (y.getD 1 (ti 0))), cmpI (unti (x.getD 2 (ti 0))) (unti (y.getD 2 (ti 0)))]

theorem t71 (a : Int) : CallsOk Tryd.prog 56 [ti a] (.bool false) := by
  have hΓ := okE
  refine c71.ok (by simp) (initSt_sat ?_)
  simp
  refine SatD.regSeq hΓ follows [0] ?_
  simp [d71r0]
  refine SatD.regSeq hΓ follows [2] ?_
  simp [d71r1]
  refine SatD.ret ?_
  simp [d71res]

abbrev spec71 : DM.Spec := specP (fun ts => ∃ a, ts = [ti a]) (fun _ => .bool false) true
theorem ok71 : EnvOk Tryd.prog (envOf [(56, spec71)]) := by
  refine EnvOk.cons EnvOk.nil ?_
  rintro ts ⟨a, rfl⟩
  exact ⟨t71 a, fun _ => rfl⟩
theorem t54 (a b : Int) : CallsOk Tryd.prog 41 [ti a, ti b] (ti (cmpI a b)) := by
  have hΓ := ok71
  refine c54.ok (by simp) (initSt_sat ?_)
  simp
  refine SatD.regSeq hΓ follows [0, 1] ?_
  simp [d54r0]
  refine SatD.regSeq hΓ follows [0, 1, 5] ?_
  simp [d54r1]
  refine SatD.regSeq hΓ follows [0, 1, 5, 6] ?_
  simp [d54r2]
  refine SatD.seq ?_
  refine SatD.regSeq hΓ follows [0, 1, 6, 11] ?_
  simp [d54r3]
  refine SatD.cond rfl (fun h => by cases h) (fun h => ?_)
  refine SatD.skip ?_
  simp
  refine SatD.seq ?_
  refine SatD.regSeq hΓ follows [0, 1, 13] ?_
  simp [d54r7]
  refine SatD.cond rfl (fun h => by cases h) (fun h => ?_)
  refine SatD.skip ?_
  simp
  refine SatD.seq ?_
  refine SatD.regSeq hΓ follows [0, 1, 16] ?_
  simp [d54r9]
  refine SatD.cond rfl (fun h => ?_) (fun h => ?_)
  · simp at h
    refine SatD.regSeq hΓ follows [4] ?_
    simp [d54r10]
    refine SatD.ret ?_
    simp [d54res, cmpI, h]
  · simp at h
    refine SatD.skip ?_
    simp
    refine SatD.seq ?_
    refine SatD.regSeq hΓ follows [0, 1, 19] ?_
    simp [d54r11]
    refine SatD.cond rfl (fun h2 => ?_) (fun h2 => ?_)
    · simp at h2
      refine SatD.regSeq hΓ follows [4] ?_
      simp [d54r12]
      refine SatD.ret ?_
      simp [d54res, cmpI, h2, show ¬ a < b by omega]
    · simp at h2
      refine SatD.skip ?_
      simp
      refine SatD.regSeq hΓ follows [4] ?_
      simp [d54r13]
      refine SatD.ret ?_
      simp [d54res, cmpI, show ¬ a < b by omega, show ¬ b < a by omega]

theorem orI_skip {l : List Int} {y : Nat} (hy : y < l.length) (h : l.getD y default = 0) : orI (l.drop y) = orI (l.drop (y + 1)) := by
  rw [List.drop_eq_getElem_cons hy]
  have : l[y] = 0 := by simpa [List.getD, hy] using h
  simp [orI, this]
theorem orI_hit {l : List Int} {y : Nat} (hy : y < l.length) (h : l.getD y default ≠ 0) : orI (l.drop y) = l.getD y default := by
  rw [List.drop_eq_getElem_cons hy]
  have e : l.getD y default = l[y] := by simp [List.getD, hy]
  rw [e] at h ⊢
  simp only [orI, List.find?_cons, bne_iff_ne, ne_eq, h, not_false_eq_true, Option.getD_some, (bne_iff_ne (a := l[y]) (b := (0 : Int))).2 h]
theorem t53 (l : List Int) (hl : l.length ≤ 1000000) : CallsOk Tryd.prog 40 [.sl (intsT l)] (ti (orI l)) := by
  have hΓ := okE
  refine c53.ok (by simp) (initSt_sat ?_)
  simp
  refine SatD.regSeq hΓ follows [0] ?_
  simp [d53r0]
  refine SatD.regSeq hΓ follows [0, 3] ?_
  simp [d53r1]
  refine SatD.seq ?_
  refine SatD.regSeq hΓ follows [3, 6, 7, 8] ?_
  simp [d53r2]
  refine SatD.block ?_
  refine SatD.loop (fun y : Nat => ⟨DM.look [(3, .v (ti 0)), (6, .v (.sl (intsT l))), (7, .v (ti l.length)), (8, .v (ti y))], obs [], 2000, 1000, []⟩)
    (fun y => y ≤ l.length ∧ orI (l.drop y) = orI l) (fun y => l.length - y) 0 (Le.keep (o := []) ?_ ?_ ?_ ?_) (by simp) (fun y hy => ?_)
  · simp
  · simp
  · simp
  · simp
  obtain ⟨hy1, hy2⟩ := hy
  refine SatD.regSeq hΓ follows [3, 6, 7, 8, 9] ?_
  simp [d53r3]
  refine SatD.seq ?_
  refine SatD.cond rfl (fun h => ?_) (fun h => ?_)
  · simp at h
    refine SatD.skip ?_
    simp
    refine SatD.seq ?_
    refine SatD.block ?_
    have hr := rowAt_ints h
    obtain ⟨p, hp⟩ : ∃ p, l.getD y default = p := ⟨_, rfl⟩
    rw [hp] at hr
    refine SatD.regSeq hΓ follows [3, 5, 6, 7, 8] ?_
    simp [d53r4, hr, h]
    refine SatD.regSeq hΓ follows [3, 5, 6, 7, 8, 14] ?_
    simp [d53r5]
    refine SatD.cond rfl (fun h2 => ?_) (fun h2 => ?_)
    · simp at h2
      refine SatD.regSeq hΓ follows [2] ?_
      simp [d53r6]
      refine SatD.ret ?_
      rw [orI_hit h (by rw [hp]; exact h2), hp] at hy2
      simp [d53res, hy2]
    · simp at h2
      refine SatD.skip ?_
      simp
      refine SatD.reg hΓ follows [3, 6, 7, 8] ?_
      simp [d53r7]
      rw [wrap_id (by omega)]
      refine ⟨y + 1, Le.keep (o := []) ?_ ?_ ?_ ?_, ⟨by omega, ?_⟩, by omega⟩
      · simp
      · simp
      · simp
      · simp
      · rw [← hy2, orI_skip h (by rw [hp]; exact h2)]
  · simp at h
    refine SatD.exit ?_
    simp
    refine SatD.regSeq hΓ follows [2] ?_
    simp [d53r8]
    refine SatD.ret ?_
    have : l.drop y = [] := List.drop_eq_nil_of_le (by omega)
    rw [this] at hy2
    simp only [d53res]
    rw [← hy2]
    simp [orI]

abbrev spec54 : DM.Spec := specP (fun ts => ∃ a b, ts = [ti a, ti b]) (fun | [.int _ a, .int _ b] => ti (cmpI a b) | _ => .bool false) true
abbrev spec53 : DM.Spec := specP (fun ts => ∃ l : List Int, ts = [.sl (intsT l)] ∧ l.length ≤ 1000000) (fun | [.sl l] => ti (orI (decInts l)) | _ => .bool false) true
theorem ok54 : EnvOk Tryd.prog (envOf [(41, spec54), (40, spec53)]) := by
  refine EnvOk.cons (EnvOk.cons EnvOk.nil ?_) ?_
  · rintro ts ⟨l, rfl, h⟩
    have := t53 l h
    rw [← decInts_enc l] at this
    exact ⟨by simpa using t53 l h, fun _ => rfl⟩
  · rintro ts ⟨a, b, rfl⟩
    exact ⟨t54 a b, fun _ => rfl⟩
theorem t33 (a b c d e f : Int) : CallsOk Tryd.prog 25 [.agg [ti a, ti b, ti c], .agg [ti d, ti e, ti f]] (ti (orI [cmpI a d, cmpI b e, cmpI c f])) := by
  have hΓ := ok54
  refine c33.ok (by simp) (initSt_sat ?_)
  simp
  refine SatD.regSeq hΓ follows [2, 3] ?_
  simp [d33r0]
  refine SatD.regSeq hΓ follows [4] ?_
  simp [d33r1]
  refine ⟨⟨[cmpI a d, cmpI b e, cmpI c f], rfl, by simp⟩, ?_⟩
  refine SatD.ret ?_
  simp [d33res]
  rfl
end Go.Proofs
/- Lengths in bits; products. Conditions: none. -/
namespace Go.Proofs
open Go.DM
set_option linter.unusedSimpArgs false
set_option linter.unusedVariables false

theorem u64_id {n : Int} (h : 0 ≤ n ∧ n < 18446744073709551616) : IntKind.u64.wrap n = n := by
  unfold IntKind.wrap
  simp [IntKind.bits, IntKind.signed]
  omega
theorem mask32 {n : Nat} (h : n < 4294967296) : n % 2 ^ IntKind.u64.bits &&& 4294967295 % 2 ^ IntKind.u64.bits = n := by
  have e : IntKind.u64.bits = 64 := rfl
  rw [e, Nat.mod_eq_of_lt (show n < 2 ^ 64 by omega), show 4294967295 % 2 ^ 64 = 2 ^ 32 - 1 by decide, Nat.and_two_pow_sub_one_eq_mod, Nat.mod_eq_of_lt (by omega)]

set_option maxRecDepth 20000 in
theorem t60 (x y : Nat) (hx : x < 4294967296) (hy : y < 4294967296) : CallsOk Tryd.prog 45 [.int .u64 x, .int .u64 y] (.tup [.int .u64 0, .int .u64 ((x * y : Nat) : Int)]) := by
  have hΓ := okE
  refine c60.ok (by simp) (initSt_sat ?_)
  simp
  refine SatD.regSeq hΓ follows [0, 1] ?_
  simp [d60r0]
  obtain ⟨p, hp⟩ : ∃ p, x * y = p := ⟨_, rfl⟩
  have hpb : p < 18446744073709551616 := by
    rw [← hp]
    calc x * y ≤ 4294967295 * 4294967295 := Nat.mul_le_mul (by omega) (by omega)
      _ < _ := by decide
  have hpi : (x : Int) * y = p := by rw [← hp]; simp
  have e1 := u64_id (n := x) (by omega)
  have e2 := u64_id (n := y) (by omega)
  have e3 := u64_id (n := p) (by omega)
  have b : IntKind.u64.bits = 64 := rfl
  have e0 : IntKind.u64.wrap 0 = 0 := rfl
  have d1 : (x : Int) / 4294967296 = 0 := by omega
  have d2 : (y : Int) / 4294967296 = 0 := by omega
  have d3 : (p : Int) / 4294967296 < 4294967296 := by omega
  obtain ⟨q, hq⟩ : ∃ q : Nat, (p : Int) / 4294967296 = q := ⟨p / 4294967296, by omega⟩
  have hqb : q < 4294967296 := by omega
  have e4 := u64_id (n := q) (by omega)
  have d4 : (q : Int) / 4294967296 = 0 := by omega
  rw [hpi]
  refine SatD.regSeq hΓ follows [0, 1, 6] ?_
  simp [d60r1, mask32 hx, e1]
  refine SatD.regSeq hΓ follows [0, 1, 6, 7] ?_
  simp [d60r2, b, d1]
  refine SatD.regSeq hΓ follows [0, 1, 6, 7, 8] ?_
  simp [d60r3, mask32 hy, e2]
  refine SatD.regSeq hΓ follows [0, 1, 6, 7, 8, 9] ?_
  simp [d60r4, b, d2]
  refine SatD.regSeq hΓ follows [0, 1, 6, 7, 8, 9, 10] ?_
  simp [d60r5, hpi, e3]
  refine SatD.regSeq hΓ follows [0, 1, 6, 7, 8, 9, 10, 11] ?_
  simp [d60r6, e0, b, hq, e4]
  refine SatD.regSeq hΓ follows [0, 1, 6, 7, 8, 9, 10, 11, 12] ?_
  simp [d60r7, e0, mask32 hqb, e4]
  refine SatD.regSeq hΓ follows [0, 1, 6, 7, 8, 9, 10, 11, 12, 13] ?_
  simp [d60r8, b, d4, e0]
  refine SatD.regSeq hΓ follows [0, 1, 6, 7, 8, 9, 10, 11, 12, 13] ?_
  simp [d60r9, e0, e4]
  refine SatD.regSeq hΓ follows [0, 1, 4] ?_
  simp [d60r10, e0, b, d4]
  refine SatD.regSeq hΓ follows [4, 5] ?_
  simp [d60r11, hpi, e3]
  refine SatD.ret ?_
  simp [d60res]

abbrev spec60 : DM.Spec := specP (fun ts => ∃ x y : Nat, ts = [.int .u64 x, .int .u64 y] ∧ x < 4294967296 ∧ y < 4294967296) (fun | [.int _ x, .int _ y] => .tup [.int .u64 0, .int .u64 (x * y)] | _ => .bool false) false
theorem ok60 : EnvOk Tryd.prog (envOf [(45, spec60)]) := by
  refine EnvOk.cons EnvOk.nil ?_
  rintro ts ⟨x, y, rfl, h1, h2⟩
  exact ⟨by simpa using t60 x y h1 h2, fun h => by cases h⟩
theorem t46 (x y : Nat) (hx : x < 4294967296) (hy : y < 4294967296) : CallsOk Tryd.prog 33 [.int .u64 x, .int .u64 y] (.tup [.int .u64 0, .int .u64 ((x * y : Nat) : Int)]) := by
  have hΓ := ok60
  refine c46.ok (by simp) (initSt_sat ?_)
  simp
  refine SatD.regSeq hΓ follows [0, 1] ?_
  simp [d46r0]
  refine SatD.seq ?_
  refine SatD.cond rfl (fun h => by cases h) (fun h => ?_)
  refine SatD.skip ?_
  simp
  refine SatD.regSeq hΓ follows [8, 9] ?_
  simp [d46r3]
  refine ⟨⟨x, y, ⟨rfl, rfl⟩, hx, hy⟩, ?_⟩
  refine SatD.regSeq hΓ follows [4, 5] ?_
  simp [d46r4]
  refine SatD.ret ?_
  simp [d46res]

/-! lengths in bits -/
def bytes70 : List UInt8 := match d70r10 with | [_, _, _, ⟨.indexS (.con (.v (.str s))) _, _, _, _, _⟩, _, _, _] => s.data.toList | _ => []
def y70 (x : Nat) : Nat := if 65536 ≤ x then x / 65536 else x
def z70 (y : Nat) : Nat := if 256 ≤ y then y / 256 else y
def c70a (x : Nat) : Int := if 65536 ≤ x then 16 else 0
def c70b (y : Nat) (c : Int) : Int := if 256 ≤ y then c + 8 else c
/-- The length in bits, as the program finds it. -/
def len70 (x : Nat) : Int := IntKind.i64.wrap (c70b (y70 x) (c70a x) + IntKind.i64.wrap ((bytes70[z70 (y70 x)]?.getD 0).toNat : Int))
set_option maxRecDepth 20000 in
theorem t70 (x : Nat) (hx : x < 4294967296) : CallsOk Tryd.prog 55 [.int .u64 x] (ti (len70 x)) := by
  have hΓ := okE
  have e1 := u64_id (n := x) (by omega)
  have b : IntKind.u64.bits = 64 := rfl
  · refine c70.ok (by simp) (initSt_sat ?_)
    simp
    refine SatD.regSeq hΓ follows [0, 2] ?_
    simp [d70r0]
    refine SatD.seq ?_
    refine SatD.regSeq hΓ follows [0, 2, 4] ?_
    simp [d70r1]
    refine SatD.cond rfl (fun h => by simp at h; omega) (fun h => ?_)
    refine SatD.skip ?_
    simp
    refine SatD.seq ?_
    refine SatD.to ⟨DM.look [(0, .v (.int .u64 (if 65536 ≤ x then x / 65536 else x : Nat))), (2, .v (.int .i64 (if 65536 ≤ x then 16 else 0)))], obs [], 2000, 1000, []⟩ ?_ ?_
    · refine SatD.regSeq hΓ follows [0, 2, 8] ?_
      simp [d70r4]
      refine SatD.cond rfl (fun h2 => ?_) (fun h2 => ?_)
      · simp at h2
        have h2' : 65536 ≤ x := by omega
        have e2 := u64_id (n := (x : Int) / 65536) (by omega)
        refine SatD.regSeq hΓ follows [0, 2] ?_
        simp [d70r5, b]
        refine SatD.reg hΓ follows [0, 2] ?_
        simp [d70r6, h2']
        refine Le.keep (o := []) ?_ ?_ ?_ ?_
        · simp
        · simp
        · simp
        · simp
      · simp at h2
        have h2' : ¬ 65536 ≤ x := by omega
        refine SatD.skip ⟨rfl, ?_⟩
        simp only [h2', if_false]
        refine Le.keep (o := []) ?_ ?_ ?_ ?_
        · simp
        · simp
        · simp
        · simp
    obtain ⟨y, hy⟩ : ∃ y, (if 65536 ≤ x then x / 65536 else x) = y := ⟨_, rfl⟩
    obtain ⟨c, hc⟩ : ∃ c : Int, (if 65536 ≤ x then (16 : Int) else 0) = c := ⟨_, rfl⟩
    have hyb : y < 65536 := by rw [← hy]; split <;> omega
    have hcb : 0 ≤ c ∧ c ≤ 16 := by rw [← hc]; split <;> omega
    rw [hy, hc]
    refine SatD.seq ?_
    refine SatD.to ⟨DM.look [(0, .v (.int .u64 (if 256 ≤ y then y / 256 else y : Nat))), (2, .v (.int .i64 (if 256 ≤ y then c + 8 else c)))], obs [], 2000, 1000, []⟩ ?_ ?_
    · refine SatD.regSeq hΓ follows [0, 2, 14] ?_
      simp [d70r7]
      refine SatD.cond rfl (fun h2 => ?_) (fun h2 => ?_)
      · simp at h2
        have h2' : 256 ≤ y := by omega
        refine SatD.regSeq hΓ follows [0, 2] ?_
        simp [d70r8, b]
        refine SatD.reg hΓ follows [0, 2] ?_
        simp [d70r9, h2']
        rw [wrap_id (by omega)]
        refine Le.keep (o := []) ?_ ?_ ?_ ?_
        · simp
        · simp
        · simp
        · simp
      · simp at h2
        have h2' : ¬ 256 ≤ y := by omega
        refine SatD.skip ⟨rfl, ?_⟩
        simp only [h2', if_false]
        refine Le.keep (o := []) ?_ ?_ ?_ ?_
        · simp
        · simp
        · simp
        · simp
    obtain ⟨z, hz⟩ : ∃ z, (if 256 ≤ y then y / 256 else y) = z := ⟨_, rfl⟩
    obtain ⟨c2, hc2⟩ : ∃ c2 : Int, (if 256 ≤ y then c + 8 else c) = c2 := ⟨_, rfl⟩
    have hzb : z < 256 := by rw [← hz]; split <;> omega
    have hc2b : 0 ≤ c2 ∧ c2 ≤ 24 := by rw [← hc2]; split <;> omega
    rw [hz, hc2]
    refine SatD.regSeq hΓ follows [2] ?_
    have w8 : IntKind.u8.wrap (z : Int) = z := by unfold IntKind.wrap; simp [IntKind.bits, IntKind.signed]; omega
    simp [d70r10, w8]
    refine ⟨hzb, ?_⟩
    refine SatD.ret ?_
    simp only [d70res]
    simp
    unfold len70 y70 z70 c70a c70b
    rw [hy, hc, hz, hc2]
    rfl

end Go.Proofs
/- Repeat. Conditions: none. -/
namespace Go.Proofs
open Go.DM
set_option linter.unusedSimpArgs false
set_option linter.unusedVariables false
abbrev spec46 : DM.Spec := specP (fun ts => ∃ x y : Nat, ts = [.int .u64 x, .int .u64 y] ∧ x < 4294967296 ∧ y < 4294967296) (fun | [.int _ x, .int _ y] => .tup [.int .u64 0, .int .u64 (x * y)] | _ => .bool false) false
theorem ok46 : EnvOk Tryd.prog (envOf [(33, spec46)]) := by
  refine EnvOk.cons EnvOk.nil ?_
  rintro ts ⟨x, y, rfl, h1, h2⟩
  exact ⟨by simpa using t46 x y h1 h2, fun h => by cases h⟩

theorem t29 (v : Int) (n : Nat) (h1 : 1 ≤ n) (hn : n ≤ 10000000) : CallsF Tryd.prog 21 [.sl (intsT [v]), ti n] 3 1 (intsT (List.replicate n v)) := by
  have hΓ := ok46
  refine c29.okF (by simp) (initSt_sat ?_)
  simp
  refine SatD.regSeq hΓ follows [0, 1] ?_
  simp [d29r0]
  refine SatD.seq ?_
  refine SatD.regSeq hΓ follows [0, 1, 10] ?_
  simp [d29r1]
  refine SatD.cond rfl (fun h => by simp at h; omega) (fun h => ?_)
  refine SatD.skip ?_
  simp
  have e1 := u64_id (n := 1) (by omega)
  have e2 := u64_id (n := n) (by omega)
  refine SatD.regSeq hΓ follows [0, 1, 5, 6] ?_
  simp [d29r3, e1, e2]
  refine ⟨⟨1, n, ⟨rfl, rfl⟩, by omega, by omega⟩, ?_⟩
  refine SatD.seq ?_
  refine SatD.regSeq hΓ follows [0, 6, 26] ?_
  simp [d29r4]
  refine SatD.cond rfl (fun h => by simp at h; omega) (fun h => ?_)
  refine SatD.skip ?_
  simp
  refine SatD.regSeq hΓ follows [0, 7] ?_
  have w1 : IntKind.i64.wrap (n : Int) = n := wrap_id (by omega)
  simp [d29r6, w1]
  refine ⟨by simp [roomOk]; omega, ?_⟩
  refine SatD.regSeq hΓ follows [7, 8] ?_
  have hrp : ∀ (k : Nat), intsT [v] = [[ti v]] := fun _ => rfl
  obtain ⟨n', rfl⟩ : ∃ n', n = n' + 1 := ⟨n - 1, by omega⟩
  simp [d29r7, intsT, List.replicate_succ]
  refine SatD.seq ?_
  refine SatD.block ?_
  refine SatD.loop (fun y : Nat => ⟨DM.look [(7, .aref 1227 0), (8, .v (ti (y + 1 : Nat)))], obs [(1227, .arr 0 3 1 (List.replicate (y + 1) [ti v] ++ List.replicate (n' - y) [ti 0]))], 3000, 1000, []⟩)
    (fun y => y ≤ n') (fun y => n' - y) 0 (Le.keep ?_ ?_ ?_ ?_) (by simp) (fun y hy => ?_)
  · simp
  · simp
  · simp
  · simp
  refine SatD.seq ?_
  refine SatD.regSeq hΓ follows [7, 8, 37] ?_
  simp [d29r8]
  refine SatD.cond rfl (fun h => ?_) (fun h => ?_)
  · simp at h
    refine SatD.skip ?_
    simp
    refine SatD.block ?_
    refine SatD.reg hΓ follows [7, 8] ?_
    have q1 : ((y : Int) + 1 ≤ (y : Int) + 1 + ((n' - y : Nat) : Int)) = True := by simp; omega
    simp [d29r9, q1]
    obtain ⟨k, hk⟩ : ∃ k, min (n' - y) (y + 1) = k := ⟨_, rfl⟩
    have k1 : min ((↑y + 1 + ((n' - y : Nat) : Int)).toNat - (y + 1)) (y + 1) = k := by omega
    have k2 : min (y + 1) ((↑y + 1 + ((n' - y : Nat) : Int)).toNat - (y + 1)) = k := by omega
    rw [k1, k2]
    have e : List.drop (y + 1 + k) (List.replicate (y + 1) [ti v] ++ List.replicate (n' - y) [ti 0]) = List.replicate (n' - (y + k)) [ti 0] := by
      rw [List.drop_append]
      simp
      omega
    rw [e]
    refine ⟨by omega, y + k, Le.keep ?_ ?_ ?_ ?_, by omega, by omega⟩
    · simp
    · simp
    · simp
      omega
    · simp
      rw [wrap_id (by omega)]
      omega
  · simp at h
    have : y = n' := by omega
    subst this
    refine SatD.exit ?_
    simp
    refine SatD.regSeq hΓ follows [4] ?_
    simp [d29r10]
    refine SatD.ret ?_
    exact .inr ⟨1227, 0, by simp, by simp [List.replicate_succ]⟩
def pre29 (ts : List T) : Prop := ∃ (v : Int) (n : Nat), ts = [.sl (intsT [v]), ti n] ∧ 1 ≤ n ∧ n ≤ 10000000
def fn29 : List T → List (List T)
  | [.sl [[v]], .int _ n] => List.replicate n.toNat [v]
  | _ => []
end Go.Proofs
