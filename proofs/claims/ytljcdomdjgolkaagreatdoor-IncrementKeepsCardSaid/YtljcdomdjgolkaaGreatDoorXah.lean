/- The D-machine: what operations touch, told with names that are not numerals. Conditions: none. -/
import Derived.Test.YtljcdomdjgolkaaGreatDoorProg
import Derived.KernelRfl
import Derived.Test.YtljcdomdjgolkaaGreatDoorXag
set_option maxRecDepth 100000

namespace Go.Proofs
open Go.DM

instance seatLaid : Laid := ⟨[(0, [.int .i64 (1099511627776), .int .i64 (0), .int .i64 (-1), .int .i64 (0)])]⟩

-- emendate/lattice.Build
-- (*emendate/lattice.builder).from
-- (*emendate/lattice.builder).deleted
-- (*emendate/lattice.builder).reads
-- (*emendate/lattice.builder).add
-- slices.Clone[[]emendate/api.Op,emendate/api.Op]
-- (*emendate/lattice.builder).swap
-- slices.Repeat[[]int,int]
-- emendate/lattice.compare
-- cmp.Or[int]
-- cmp.Compare[int]
-- cmp.isNaN[int]
-- slices.SortFunc[[]emendate/lattice.key,emendate/lattice.key]
-- math/bits.Mul
def d46r0 : List RO := [
  ⟨.mov (.con (.v (.int .u64 0))), (some 4), none, [], none⟩,
  ⟨.mov (.con (.v (.int .u64 0))), (some 5), none, [0], none⟩]
def d46r1 : List RO := [
  ⟨.mov (.tmp 0), (some 11), none, [], none⟩,
  ⟨.conv .u32 (.tmp 11), (some 12), none, [0], none⟩,
  ⟨.mov (.tmp 1), (some 13), none, [], none⟩,
  ⟨.conv .u32 (.tmp 13), (some 14), none, [2], none⟩,
  ⟨.call 94 [(.tmp 12), (.tmp 14)], (some 15), none, [1, 3], none⟩,
  ⟨.mov (.tmp 15), (some 10), none, [4], none⟩,
  ⟨.extract 0 (.tmp 10), (some 16), none, [5], none⟩,
  ⟨.extract 1 (.tmp 10), (some 17), none, [5], none⟩,
  ⟨.mov (.tmp 16), (some 6), none, [6, 4, 0, 1, 2, 3, 4, 5, 6], none⟩,
  ⟨.mov (.tmp 17), (some 7), none, [7, 8, 0, 1, 2, 3, 4, 5, 6, 7, 8], none⟩]
def d46r2 : List RO := [
  ⟨.mov (.tmp 6), (some 18), none, [], none⟩,
  ⟨.conv .u64 (.tmp 18), (some 19), none, [0], none⟩,
  ⟨.mov (.tmp 7), (some 20), none, [], none⟩,
  ⟨.conv .u64 (.tmp 20), (some 21), none, [2], none⟩,
  ⟨.mov (.tmp 19), (some 4), none, [1, 0, 1], none⟩,
  ⟨.mov (.tmp 21), (some 5), none, [3, 4, 0, 1, 2, 3, 4], none⟩]
def d46r3 : List RO := [
  ⟨.mov (.tmp 0), (some 23), none, [], none⟩,
  ⟨.mov (.tmp 1), (some 24), none, [], none⟩,
  ⟨.call 95 [(.tmp 23), (.tmp 24)], (some 25), none, [0, 1], none⟩,
  ⟨.mov (.tmp 25), (some 22), none, [2], none⟩,
  ⟨.extract 0 (.tmp 22), (some 26), none, [3], none⟩,
  ⟨.extract 1 (.tmp 22), (some 27), none, [3], none⟩,
  ⟨.mov (.tmp 26), (some 8), none, [4, 2, 0, 1, 2, 3, 4], none⟩,
  ⟨.mov (.tmp 27), (some 9), none, [5, 6, 0, 1, 2, 3, 4, 5, 6], none⟩]
def d46r4 : List RO := [
  ⟨.mov (.tmp 8), (some 28), none, [], none⟩,
  ⟨.mov (.tmp 9), (some 29), none, [], none⟩,
  ⟨.mov (.tmp 28), (some 4), none, [0, 0], none⟩,
  ⟨.mov (.tmp 29), (some 5), none, [1, 2, 0, 1, 2], none⟩]
def d46 : DC := (.seq (.region false d46r0)
  (.seq (.cond (.con (.v (.bool false))) (.seq (.region false d46r1)
  (.seq (.region false d46r2)
  .ret))
  .skip)
  (.seq (.region false d46r3)
  (.seq (.region false d46r4)
  .ret))))
def d46res : List DRes := [.slot 4, .slot 5]
theorem c46 [Laid] : CodeOf Tryz.prog 71 30 d46 d46res := ⟨Tryz.f71, by kernel_rfl, by kernel_rfl, by kernel_rfl, by kernel_rfl, by kernel_rfl⟩
-- math/bits.Len
-- math/bits.Mul64
def d60r0 : List RO := [
  ⟨.mov (.con (.v (.int .u64 0))), (some 4), none, [], none⟩,
  ⟨.mov (.con (.v (.int .u64 0))), (some 5), none, [0], none⟩]
def d60r1 : List RO := [
  ⟨.mov (.tmp 0), (some 14), none, [], none⟩,
  ⟨.bin .and (.tmp 14) (.con (.v (.int .u64 4294967295))), (some 15), none, [0], none⟩,
  ⟨.mov (.tmp 15), (some 6), none, [1, 0, 1], none⟩]
def d60r2 : List RO := [
  ⟨.mov (.tmp 0), (some 16), none, [], none⟩,
  ⟨.bin .shr (.tmp 16) (.con (.v (.int .u64 32))), (some 17), none, [0], none⟩,
  ⟨.mov (.tmp 17), (some 7), none, [1, 0, 1], none⟩]
def d60r3 : List RO := [
  ⟨.mov (.tmp 1), (some 18), none, [], none⟩,
  ⟨.bin .and (.tmp 18) (.con (.v (.int .u64 4294967295))), (some 19), none, [0], none⟩,
  ⟨.mov (.tmp 19), (some 8), none, [1, 0, 1], none⟩]
def d60r4 : List RO := [
  ⟨.mov (.tmp 1), (some 20), none, [], none⟩,
  ⟨.bin .shr (.tmp 20) (.con (.v (.int .u64 32))), (some 21), none, [0], none⟩,
  ⟨.mov (.tmp 21), (some 9), none, [1, 0, 1], none⟩]
def d60r5 : List RO := [
  ⟨.mov (.tmp 6), (some 22), none, [], none⟩,
  ⟨.mov (.tmp 8), (some 23), none, [], none⟩,
  ⟨.bin .mul (.tmp 22) (.tmp 23), (some 24), none, [0, 1], none⟩,
  ⟨.mov (.tmp 24), (some 10), none, [2, 0, 1, 2], none⟩]
def d60r6 : List RO := [
  ⟨.mov (.tmp 7), (some 25), none, [], none⟩,
  ⟨.mov (.tmp 8), (some 26), none, [], none⟩,
  ⟨.bin .mul (.tmp 25) (.tmp 26), (some 27), none, [0, 1], none⟩,
  ⟨.mov (.tmp 10), (some 28), none, [], none⟩,
  ⟨.bin .shr (.tmp 28) (.con (.v (.int .u64 32))), (some 29), none, [3], none⟩,
  ⟨.bin .add (.tmp 27) (.tmp 29), (some 30), none, [2, 4], none⟩,
  ⟨.mov (.tmp 30), (some 11), none, [5, 0, 1, 2, 3, 4, 5], none⟩]
def d60r7 : List RO := [
  ⟨.mov (.tmp 11), (some 31), none, [], none⟩,
  ⟨.bin .and (.tmp 31) (.con (.v (.int .u64 4294967295))), (some 32), none, [0], none⟩,
  ⟨.mov (.tmp 32), (some 12), none, [1, 0, 1], none⟩]
def d60r8 : List RO := [
  ⟨.mov (.tmp 11), (some 33), none, [], none⟩,
  ⟨.bin .shr (.tmp 33) (.con (.v (.int .u64 32))), (some 34), none, [0], none⟩,
  ⟨.mov (.tmp 34), (some 13), none, [1, 0, 1], none⟩]
def d60r9 : List RO := [
  ⟨.mov (.tmp 12), (some 35), none, [], none⟩,
  ⟨.mov (.tmp 6), (some 36), none, [], none⟩,
  ⟨.mov (.tmp 9), (some 37), none, [], none⟩,
  ⟨.bin .mul (.tmp 36) (.tmp 37), (some 38), none, [1, 2], none⟩,
  ⟨.bin .add (.tmp 35) (.tmp 38), (some 39), none, [0, 3], none⟩,
  ⟨.mov (.tmp 39), (some 12), none, [4, 0, 1, 2, 3, 4], none⟩]
def d60r10 : List RO := [
  ⟨.mov (.tmp 7), (some 40), none, [], none⟩,
  ⟨.mov (.tmp 9), (some 41), none, [], none⟩,
  ⟨.bin .mul (.tmp 40) (.tmp 41), (some 42), none, [0, 1], none⟩,
  ⟨.mov (.tmp 13), (some 43), none, [], none⟩,
  ⟨.bin .add (.tmp 42) (.tmp 43), (some 44), none, [2, 3], none⟩,
  ⟨.mov (.tmp 12), (some 45), none, [], none⟩,
  ⟨.bin .shr (.tmp 45) (.con (.v (.int .u64 32))), (some 46), none, [5], none⟩,
  ⟨.bin .add (.tmp 44) (.tmp 46), (some 47), none, [4, 6], none⟩,
  ⟨.mov (.tmp 47), (some 4), none, [7, 0, 1, 2, 3, 4, 5, 6, 7], none⟩]
def d60r11 : List RO := [
  ⟨.mov (.tmp 0), (some 48), none, [], none⟩,
  ⟨.mov (.tmp 1), (some 49), none, [], none⟩,
  ⟨.bin .mul (.tmp 48) (.tmp 49), (some 50), none, [0, 1], none⟩,
  ⟨.mov (.tmp 50), (some 5), none, [2, 0, 1, 2], none⟩]
def d60 : DC := (.seq (.region false d60r0)
  (.seq (.region false d60r1)
  (.seq (.region false d60r2)
  (.seq (.region false d60r3)
  (.seq (.region false d60r4)
  (.seq (.region false d60r5)
  (.seq (.region false d60r6)
  (.seq (.region false d60r7)
  (.seq (.region false d60r8)
  (.seq (.region false d60r9)
  (.seq (.region false d60r10)
  (.seq (.region false d60r11)
  .ret))))))))))))
def d60res : List DRes := [.slot 4, .slot 5]
theorem c60 [Laid] : CodeOf Tryz.prog 95 51 d60 d60res := ⟨Tryz.f95, by kernel_rfl, by kernel_rfl, by kernel_rfl, by kernel_rfl, by kernel_rfl⟩
-- math/bits.Len64
def d70r0 : List RO := [
  ⟨.mov (.con (.v (.int .i64 0))), (some 2), none, [], none⟩]
def d70r1 : List RO := [
  ⟨.mov (.tmp 0), (some 3), none, [], none⟩,
  ⟨.bin .geq (.tmp 3) (.con (.v (.int .u64 4294967296))), (some 4), none, [0], none⟩]
def d70r2 : List RO := [
  ⟨.mov (.tmp 0), (some 5), none, [], none⟩,
  ⟨.bin .shr (.tmp 5) (.con (.v (.int .u64 32))), (some 6), none, [0], none⟩,
  ⟨.mov (.tmp 6), (some 0), none, [1, 0, 1], none⟩]
def d70r3 : List RO := [
  ⟨.mov (.con (.v (.int .i64 32))), (some 2), none, [], none⟩]
def d70r4 : List RO := [
  ⟨.mov (.tmp 0), (some 7), none, [], none⟩,
  ⟨.bin .geq (.tmp 7) (.con (.v (.int .u64 65536))), (some 8), none, [0], none⟩]
def d70r5 : List RO := [
  ⟨.mov (.tmp 0), (some 9), none, [], none⟩,
  ⟨.bin .shr (.tmp 9) (.con (.v (.int .u64 16))), (some 10), none, [0], none⟩,
  ⟨.mov (.tmp 10), (some 0), none, [1, 0, 1], none⟩]
def d70r6 : List RO := [
  ⟨.mov (.tmp 2), (some 11), none, [], none⟩,
  ⟨.bin .add (.tmp 11) (.con (.v (.int .i64 16))), (some 12), none, [0], none⟩,
  ⟨.mov (.tmp 12), (some 2), none, [1, 0, 1], none⟩]
def d70r7 : List RO := [
  ⟨.mov (.tmp 0), (some 13), none, [], none⟩,
  ⟨.bin .geq (.tmp 13) (.con (.v (.int .u64 256))), (some 14), none, [0], none⟩]
def d70r8 : List RO := [
  ⟨.mov (.tmp 0), (some 15), none, [], none⟩,
  ⟨.bin .shr (.tmp 15) (.con (.v (.int .u64 8))), (some 16), none, [0], none⟩,
  ⟨.mov (.tmp 16), (some 0), none, [1, 0, 1], none⟩]
def d70r9 : List RO := [
  ⟨.mov (.tmp 2), (some 17), none, [], none⟩,
  ⟨.bin .add (.tmp 17) (.con (.v (.int .i64 8))), (some 18), none, [0], none⟩,
  ⟨.mov (.tmp 18), (some 2), none, [1, 0, 1], none⟩]
def d70r10 : List RO := [
  ⟨.mov (.tmp 2), (some 19), none, [], none⟩,
  ⟨.mov (.tmp 0), (some 20), none, [], none⟩,
  ⟨.conv .u8 (.tmp 20), (some 21), none, [1], none⟩,
  ⟨.indexS (.con (.v (.str ⟨#[0, 1, 2, 2, 3, 3, 3, 3, 4, 4, 4, 4, 4, 4, 4, 4, 5, 5, 5, 5, 5, 5, 5, 5, 5, 5, 5, 5, 5, 5, 5, 5, 6, 6, 6, 6, 6, 6, 6, 6, 6, 6, 6, 6, 6, 6, 6, 6, 6, 6, 6, 6, 6, 6, 6, 6, 6, 6, 6, 6, 6, 6, 6, 6, 7, 7, 7, 7, 7, 7, 7, 7, 7, 7, 7, 7, 7, 7, 7, 7, 7, 7, 7, 7, 7, 7, 7, 7, 7, 7, 7, 7, 7, 7, 7, 7, 7, 7, 7, 7, 7, 7, 7, 7, 7, 7, 7, 7, 7, 7, 7, 7, 7, 7, 7, 7, 7, 7, 7, 7, 7, 7, 7, 7, 7, 7, 7, 7, 8, 8, 8, 8, 8, 8, 8, 8, 8, 8, 8, 8, 8, 8, 8, 8, 8, 8, 8, 8, 8, 8, 8, 8, 8, 8, 8, 8, 8, 8, 8, 8, 8, 8, 8, 8, 8, 8, 8, 8, 8, 8, 8, 8, 8, 8, 8, 8, 8, 8, 8, 8, 8, 8, 8, 8, 8, 8, 8, 8, 8, 8, 8, 8, 8, 8, 8, 8, 8, 8, 8, 8, 8, 8, 8, 8, 8, 8, 8, 8, 8, 8, 8, 8, 8, 8, 8, 8, 8, 8, 8, 8, 8, 8, 8, 8, 8, 8, 8, 8, 8, 8, 8, 8, 8, 8, 8, 8, 8, 8, 8, 8, 8, 8, 8, 8, 8, 8, 8, 8, 8, 8, 8, 8, 8, 8, 8, 8]⟩))) (.tmp 21), (some 22), none, [2], none⟩,
  ⟨.conv .i64 (.tmp 22), (some 23), none, [3], none⟩,
  ⟨.bin .add (.tmp 19) (.tmp 23), (some 24), none, [0, 4], none⟩,
  ⟨.mov (.tmp 24), (some 2), none, [5, 0, 1, 2, 3, 4, 5], none⟩]
def d70 : DC := (.seq (.region false d70r0)
  (.seq (.seq (.region false d70r1)
  (.cond (.tmp 4) (.seq (.region false d70r2)
  (.region false d70r3))
  .skip))
  (.seq (.seq (.region false d70r4)
  (.cond (.tmp 8) (.seq (.region false d70r5)
  (.region false d70r6))
  .skip))
  (.seq (.seq (.region false d70r7)
  (.cond (.tmp 14) (.seq (.region false d70r8)
  (.region false d70r9))
  .skip))
  (.seq (.region false d70r10)
  .ret)))))
def d70res : List DRes := [.slot 2]
theorem c70 [Laid] : CodeOf Tryz.prog 105 25 d70 d70res := ⟨Tryz.f105, by kernel_rfl, by kernel_rfl, by kernel_rfl, by kernel_rfl, by kernel_rfl⟩
-- slices.insertionSortCmpFunc[emendate/lattice.key]
theorem follows : Tryz.prog.follows .mixedOrders = true := by kernel_rfl

end Go.Proofs
namespace Go.DM
set_option linter.unusedSimpArgs false
set_option linter.unusedVariables false
set_option linter.unusedSectionVars false
variable [Laid]
theorem obs_setO (l : List (Nat × Ob)) (r : Nat) (o : Ob) : setO (obs l) r o = obs ((r, o) :: l) := rfl
end Go.DM
/- The D-machine, part Zc: regions in the order of the text, with calls that may write. Conditions: none. -/
namespace Go.DM
open Go.RowKit
set_option linter.unusedSimpArgs false
set_option linter.unusedVariables false
set_option linter.unusedSectionVars false
variable [Laid]

section
variable {P : Program} {nt : Nat} {Γ : Env} {Q : Exit → DSt → Prop} {st : DSt} {tm : Nat → DV} {ob : Obs} {nxt low : Nat} {td : List (List T)}
end
end Go.DM
/- The D-machine, part Zd: guarded operations that say what they touch. Conditions: none. -/
namespace Go.DM
open Go.RowKit
set_option linter.unusedSimpArgs false
set_option linter.unusedVariables false
set_option linter.unusedSectionVars false
variable [Laid]
section
variable {Γ : Env} {nxt : Nat} {K : RS → Prop} {rs : List RO} {tm : Nat → DV} {ob : Obs} {td : List (List T)} {dst : Option Nat} {d : DOp} {s : Nat} {af l : List Nat}
@[simp] theorem exec_h_t (b : Bool) (h : tm s = .v (.bool b)) : exec Γ nxt (⟨d, dst, some (s, b), af, some l⟩ :: rs) ⟨tm, ob, td⟩ K = (touchOk ⟨d, dst, none, af, some l⟩ tm ∧ goD Γ nxt d rs tm ob td K dst tm) := by
  simp only [exec, h, forall_const, updT_self h]
  cases b <;> simp [goD_post, touchOk]
theorem exec_h_f (b c : Bool) (h : tm s = .v (.bool b)) (hc : b = !c) : exec Γ nxt (⟨d, dst, some (s, c), af, some l⟩ :: rs) ⟨tm, ob, td⟩ K = exec Γ nxt rs ⟨updT tm dst .skip, ob, td⟩ K := by
  subst hc
  cases c
  · have h : tm s = .v (.bool true) := h
    simp [exec, h, updT_self h]
  · have h : tm s = .v (.bool false) := h
    simp [exec, h, updT_self h]
@[simp] theorem exec_h_tf (h : tm s = .v (.bool true)) : exec Γ nxt (⟨d, dst, some (s, false), af, some l⟩ :: rs) ⟨tm, ob, td⟩ K = exec Γ nxt rs ⟨updT tm dst .skip, ob, td⟩ K := exec_h_f true false h rfl
@[simp] theorem exec_h_ft (h : tm s = .v (.bool false)) : exec Γ nxt (⟨d, dst, some (s, true), af, some l⟩ :: rs) ⟨tm, ob, td⟩ K = exec Γ nxt rs ⟨updT tm dst .skip, ob, td⟩ K := exec_h_f false true h rfl
@[simp] theorem exec_h_sk {want : Bool} (h : tm s = .skip) : exec Γ nxt (⟨d, dst, some (s, want), af, some l⟩ :: rs) ⟨tm, ob, td⟩ K = exec Γ nxt rs ⟨updT tm dst .skip, ob, td⟩ K := by
  simp only [exec, h]
end
end Go.DM
