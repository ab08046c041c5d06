/- Lattices and inputs as Lean data, and their trees; the map of the builder. Conditions: none. -/
import Derived.Test.YtljcdomdjgolkaaGreatDoorXah
import Derived.KernelRfl
set_option maxRecDepth 100000

namespace Go.Proofs
namespace Inc
open Go.DM

-- emendate/emendateref29.Less
def d92r0 : List RO := [
  ⟨.box (.tmp 0), (some 2), none, [], none⟩,
  ⟨.box (.tmp 1), (some 3), none, [], none⟩,
  ⟨.mov (.con (.v (.bool false))), (some 4), none, [], none⟩]
def d92r1 : List RO := [
  ⟨.addOff 0 (.tmp 2), (some 5), none, [], none⟩,
  ⟨.load 1 false (.tmp 5), (some 6), none, [0], none⟩,
  ⟨.addOff 0 (.tmp 3), (some 7), none, [], none⟩,
  ⟨.load 1 false (.tmp 7), (some 8), none, [2], none⟩,
  ⟨.bin .lss (.tmp 6) (.tmp 8), (some 9), none, [1, 3], none⟩,
  ⟨.mov (.tmp 9), (some 10), none, [4], none⟩,
  ⟨.addOff 0 (.tmp 2), (some 11), (some (10, false)), [5], none⟩,
  ⟨.load 1 false (.tmp 11), (some 12), (some (10, false)), [6, 5], none⟩,
  ⟨.addOff 0 (.tmp 3), (some 13), (some (10, false)), [5], none⟩,
  ⟨.load 1 false (.tmp 13), (some 14), (some (10, false)), [8, 5], none⟩,
  ⟨.bin .eql (.tmp 12) (.tmp 14), (some 15), (some (10, false)), [7, 9, 5], none⟩,
  ⟨.mov (.tmp 15), (some 16), (some (10, false)), [10, 5, 5], none⟩,
  ⟨.addOff 1 (.tmp 2), (some 17), (some (16, true)), [11], none⟩,
  ⟨.load 1 false (.tmp 17), (some 18), (some (16, true)), [12, 11], none⟩,
  ⟨.addOff 1 (.tmp 3), (some 19), (some (16, true)), [11], none⟩,
  ⟨.load 1 false (.tmp 19), (some 20), (some (16, true)), [14, 11], none⟩,
  ⟨.bin .lss (.tmp 18) (.tmp 20), (some 21), (some (16, true)), [13, 15, 11], none⟩,
  ⟨.pick (.tmp 16) (.tmp 21) (.con (.v (.bool false))), (some 22), (some (10, false)), [11, 16, 5], none⟩,
  ⟨.pick (.tmp 10) (.con (.v (.bool true))) (.tmp 22), (some 23), none, [5, 17], none⟩,
  ⟨.mov (.tmp 23), (some 4), none, [18, 11, 0, 1, 2, 3, 4, 5, 6, 7, 8, 9, 10, 11, 12, 13, 14, 15, 16, 17, 18], none⟩]
def d92 : DC := (.seq (.region false d92r0)
  (.seq (.region false d92r1)
  .ret))
def d92res : List DRes := [.slot 4]
theorem c92 [Laid] : CodeOf Tryz.prog 92 24 d92 d92res := ⟨Tryz.f92, by kernel_rfl, by kernel_rfl, by kernel_rfl, by kernel_rfl, by kernel_rfl⟩
-- emendate/emendateref29.Combine
def d69r0 : List RO := [
  ⟨.alloc [(.v (.int .i64 0)), (.v (.int .i64 0))], (some 4), none, [], none⟩]
def d69r1 : List RO := [
  ⟨.mov (.tmp 0), (some 8), none, [], none⟩,
  ⟨.mov (.tmp 8), (some 5), none, [0, 0], none⟩,
  ⟨.mov (.con (.v (.int .i64 1))), (some 6), none, [1, 0, 1], none⟩]
def d69r2 : List RO := [
  ⟨.mov (.con (.v (.int .i64 0))), (some 7), none, [], none⟩]
def d69r3 : List RO := [
  ⟨.mov (.tmp 7), (some 9), none, [], none⟩,
  ⟨.mov (.tmp 1), (some 10), none, [], none⟩,
  ⟨.len (.tmp 10), (some 11), none, [1], none⟩,
  ⟨.bin .lss (.tmp 9) (.tmp 11), (some 12), none, [0, 2], none⟩]
def d69r4 : List RO := [
  ⟨.mov (.tmp 5), (some 15), none, [], none⟩,
  ⟨.mov (.tmp 1), (some 16), none, [], none⟩,
  ⟨.mov (.tmp 7), (some 17), none, [], none⟩,
  ⟨.idxAddr 2 (.tmp 16) (.tmp 17), (some 18), none, [1, 2], none⟩,
  ⟨.addOff 0 (.tmp 18), (some 19), none, [3], none⟩,
  ⟨.load 1 false (.tmp 19), (some 20), none, [4], none⟩,
  ⟨.bin .add (.tmp 15) (.tmp 20), (some 21), none, [0, 5], none⟩,
  ⟨.minmax false (.tmp 21) (.con (.v (.int .i64 1099511627776))), (some 22), none, [6], none⟩,
  ⟨.mov (.tmp 6), (some 23), none, [], none⟩,
  ⟨.mov (.tmp 1), (some 24), none, [], none⟩,
  ⟨.mov (.tmp 7), (some 25), none, [], none⟩,
  ⟨.idxAddr 2 (.tmp 24) (.tmp 25), (some 26), none, [9, 10], none⟩,
  ⟨.addOff 1 (.tmp 26), (some 27), none, [11], none⟩,
  ⟨.load 1 false (.tmp 27), (some 28), none, [12], none⟩,
  ⟨.bin .add (.tmp 23) (.tmp 28), (some 29), none, [8, 13], none⟩,
  ⟨.minmax false (.tmp 29) (.con (.v (.int .i64 1099511627776))), (some 30), none, [14], none⟩,
  ⟨.mov (.tmp 22), (some 5), none, [7, 0, 1, 2, 3, 4, 5, 6, 7], none⟩,
  ⟨.mov (.tmp 30), (some 6), none, [15, 16, 0, 1, 2, 3, 4, 5, 6, 7, 8, 9, 10, 11, 12, 13, 14, 15, 16], none⟩]
def d69r5 : List RO := [
  ⟨.mov (.tmp 7), (some 13), none, [], none⟩,
  ⟨.bin .add (.tmp 13) (.con (.v (.int .i64 1))), (some 14), none, [0], none⟩,
  ⟨.mov (.tmp 14), (some 7), none, [1, 0, 1], none⟩]
def d69r6 : List RO := [
  ⟨.mov (.tmp 5), (some 31), none, [], none⟩,
  ⟨.bin .geq (.tmp 31) (.con (.v (.int .i64 1099511627776))), (some 32), none, [0], none⟩]
def d69r7 : List RO := [
  ⟨.build [(.v (.int .i64 0)), (.v (.int .i64 0))] [(0, 1, (.con (.v (.int .i64 1099511627776))))], (some 33), none, [], none⟩,
  ⟨.store 2 (.tmp 4) (.tmp 33), none, none, [0, 0], none⟩]
def d69r8 : List RO := [
  ⟨.mov (.tmp 5), (some 34), none, [], none⟩,
  ⟨.mov (.tmp 6), (some 35), none, [], none⟩,
  ⟨.build [(.v (.int .i64 0)), (.v (.int .i64 0))] [(0, 1, (.tmp 34)), (1, 1, (.tmp 35))], (some 36), none, [0, 1], none⟩,
  ⟨.store 2 (.tmp 4) (.tmp 36), none, none, [2, 0, 1, 2], none⟩]
def d69 : DC := (.seq (.region false d69r0)
  (.seq (.region false d69r1)
  (.seq (.seq (.region false d69r2)
  (.block 0 (.loop (.seq (.seq (.region false d69r3)
  (.cond (.tmp 12) .skip
  (.exit 0)))
  (.seq (.block 1 (.region true d69r4))
  (.region false d69r5))))))
  (.seq (.seq (.region false d69r6)
  (.cond (.tmp 32) (.seq (.region false d69r7)
  .ret)
  .skip))
  (.seq (.region false d69r8)
  .ret)))))
def d69res : List DRes := [.cell 4 2 true]
theorem c69 [Laid] : CodeOf Tryz.prog 69 37 d69 d69res := ⟨Tryz.f69, by kernel_rfl, by kernel_rfl, by kernel_rfl, by kernel_rfl, by kernel_rfl⟩
-- emendate/emendateref29.Tails
def d91r0 : List RO := [
  ⟨.box (.tmp 0), (some 2), none, [], none⟩,
  ⟨.mov (.con .nil0), (some 4), none, [], none⟩]
def d91r1 : List RO := [
  ⟨.mov (.con .nil0), (some 5), none, [], none⟩]
def d91r2 : List RO := [
  ⟨.mov (.con (.v (.int .i64 0))), (some 6), none, [], none⟩]
def d91r3 : List RO := [
  ⟨.mov (.tmp 6), (some 7), none, [], none⟩,
  ⟨.addOff 1 (.tmp 2), (some 8), none, [], none⟩,
  ⟨.load 1 false (.tmp 8), (some 9), none, [1], none⟩,
  ⟨.len (.tmp 9), (some 10), none, [2], none⟩,
  ⟨.bin .lss (.tmp 7) (.tmp 10), (some 11), none, [0, 3], none⟩]
def d91r4 : List RO := [
  ⟨.mov (.tmp 5), (some 14), none, [], none⟩,
  ⟨.mov (.tmp 1), (some 15), none, [], none⟩,
  ⟨.addOff 1 (.tmp 2), (some 16), none, [], none⟩,
  ⟨.load 1 false (.tmp 16), (some 17), none, [2], none⟩,
  ⟨.mov (.tmp 6), (some 18), none, [], none⟩,
  ⟨.idxAddr 1 (.tmp 17) (.tmp 18), (some 19), none, [3, 4], none⟩,
  ⟨.load 1 false (.tmp 19), (some 20), none, [5], none⟩,
  ⟨.idxAddr 2 (.tmp 15) (.tmp 20), (some 21), none, [1, 6], none⟩,
  ⟨.load 2 true (.tmp 21), (some 22), none, [7], none⟩,
  ⟨.bslice 1 2 [(.v (.int .i64 0)), (.v (.int .i64 0))] [(0, 2, (.tmp 22))], (some 23), none, [8], none⟩,
  ⟨.append 55 2 16 (.tmp 14) (.tmp 23), (some 24), none, [0, 9], none⟩,
  ⟨.mov (.tmp 24), (some 5), none, [10, 10, 0, 1, 2, 3, 4, 5, 6, 7, 8, 9, 10], none⟩]
def d91r5 : List RO := [
  ⟨.mov (.tmp 6), (some 12), none, [], none⟩,
  ⟨.bin .add (.tmp 12) (.con (.v (.int .i64 1))), (some 13), none, [0], none⟩,
  ⟨.mov (.tmp 13), (some 6), none, [1, 0, 1], none⟩]
def d91r6 : List RO := [
  ⟨.mov (.tmp 5), (some 25), none, [], none⟩,
  ⟨.mov (.tmp 25), (some 4), none, [0, 0], none⟩]
def d91 : DC := (.seq (.region false d91r0)
  (.seq (.region false d91r1)
  (.seq (.seq (.region false d91r2)
  (.block 0 (.loop (.seq (.seq (.region false d91r3)
  (.cond (.tmp 11) .skip
  (.exit 0)))
  (.seq (.block 1 (.region false d91r4))
  (.region false d91r5))))))
  (.seq (.region false d91r6)
  .ret))))
def d91res : List DRes := [.slot 4]
theorem c91 [Laid] : CodeOf Tryz.prog 91 26 d91 d91res := ⟨Tryz.f91, by kernel_rfl, by kernel_rfl, by kernel_rfl, by kernel_rfl, by kernel_rfl⟩
-- emendate/emendateref29.Solve
def d66r0 : List RO := [
  ⟨.box (.tmp 0), (some 1), none, [], none⟩,
  ⟨.mov (.con .nil0), (some 2), none, [], none⟩,
  ⟨.mov (.con .nil0), (some 3), none, [1], none⟩]
def d66r1 : List RO := [
  ⟨.addOff 0 (.tmp 1), (some 14), none, [], none⟩,
  ⟨.load 1 false (.tmp 14), (some 15), none, [0], none⟩,
  ⟨.mkSlice 55 2 16 [(.int .i64 0), (.int .i64 0)] (.tmp 15), (some 16), none, [1, 1], none⟩,
  ⟨.mov (.tmp 16), (some 4), none, [2, 0, 1, 2], none⟩]
def d66r2 : List RO := [
  ⟨.addOff 0 (.tmp 1), (some 17), none, [], none⟩,
  ⟨.load 1 false (.tmp 17), (some 18), none, [0], none⟩,
  ⟨.mkSlice 3 1 8 [(.int .i64 0)] (.tmp 18), (some 19), none, [1, 1], none⟩,
  ⟨.mov (.tmp 19), (some 5), none, [2, 0, 1, 2], none⟩]
def d66r3 : List RO := [
  ⟨.mov (.con (.v (.int .i64 0))), (some 6), none, [], none⟩]
def d66r4 : List RO := [
  ⟨.mov (.tmp 6), (some 20), none, [], none⟩,
  ⟨.addOff 0 (.tmp 1), (some 21), none, [], none⟩,
  ⟨.load 1 false (.tmp 21), (some 22), none, [1], none⟩,
  ⟨.bin .lss (.tmp 20) (.tmp 22), (some 23), none, [0, 2], none⟩]
def d66r5 : List RO := [
  ⟨.mov (.tmp 4), (some 26), none, [], none⟩,
  ⟨.mov (.tmp 6), (some 27), none, [], none⟩,
  ⟨.mov (.tmp 5), (some 28), none, [], none⟩,
  ⟨.mov (.tmp 6), (some 29), none, [], none⟩,
  ⟨.build [(.v (.int .i64 0)), (.v (.int .i64 0))] [(0, 1, (.con (.v (.int .i64 1099511627776))))], (some 30), none, [], none⟩,
  ⟨.idxAddr 2 (.tmp 26) (.tmp 27), (some 31), none, [0, 1, 0, 1, 4], none⟩,
  ⟨.store 2 (.tmp 31) (.tmp 30), none, none, [5, 4, 0, 1, 4], none⟩,
  ⟨.idxAddr 1 (.tmp 28) (.tmp 29), (some 32), none, [2, 3, 0, 1, 2, 3, 4, 5, 6], none⟩,
  ⟨.store 1 (.tmp 32) (.con (.v (.int .i64 (-1)))), none, none, [7, 6, 0, 1, 2, 3, 4, 5, 6], none⟩]
def d66r6 : List RO := [
  ⟨.mov (.tmp 6), (some 24), none, [], none⟩,
  ⟨.bin .add (.tmp 24) (.con (.v (.int .i64 1))), (some 25), none, [0], none⟩,
  ⟨.mov (.tmp 25), (some 6), none, [1, 0, 1], none⟩]
def d66r7 : List RO := [
  ⟨.mov (.con (.v (.bool true))), (some 7), none, [], none⟩]
def d66r8 : List RO := [
  ⟨.mov (.tmp 7), (some 33), none, [], none⟩]
def d66r9 : List RO := [
  ⟨.mov (.con (.v (.bool false))), (some 7), none, [], none⟩]
def d66r10 : List RO := [
  ⟨.mov (.con (.v (.int .i64 0))), (some 8), none, [], none⟩]
def d66r11 : List RO := [
  ⟨.mov (.tmp 8), (some 34), none, [], none⟩,
  ⟨.addOff 1 (.tmp 1), (some 35), none, [], none⟩,
  ⟨.load 1 false (.tmp 35), (some 36), none, [1], none⟩,
  ⟨.len (.tmp 36), (some 37), none, [2], none⟩,
  ⟨.bin .lss (.tmp 34) (.tmp 37), (some 38), none, [0, 3], none⟩]
def d66r12 : List RO := [
  ⟨.addOff 1 (.tmp 1), (some 41), none, [], none⟩,
  ⟨.load 1 false (.tmp 41), (some 42), none, [0], none⟩,
  ⟨.mov (.tmp 8), (some 43), none, [], none⟩,
  ⟨.idxAddr 5 (.tmp 42) (.tmp 43), (some 44), none, [1, 2], none⟩,
  ⟨.load 5 true (.tmp 44), (some 45), none, [3], none⟩,
  ⟨.alloc [(.v (.int .i64 0)), .nil0, (.v (.int .i64 0)), (.v (.int .i64 0)), (.v (.int .i64 0))], (some 9), none, [], none⟩,
  ⟨.store 5 (.tmp 9) (.tmp 45), none, none, [5, 4, 0, 1, 2, 3, 4, 5], none⟩]
def d66r13 : List RO := [
  ⟨.addOff 2 (.tmp 9), (some 46), none, [], none⟩,
  ⟨.load 1 false (.tmp 46), (some 47), none, [0], none⟩,
  ⟨.load 5 true (.tmp 9), (some 48), none, [], none⟩,
  ⟨.mov (.tmp 4), (some 49), none, [], none⟩,
  ⟨.call 91 [(.tmp 48), (.tmp 49)], (some 50), none, [2, 3], none⟩,
  ⟨.call 69 [(.tmp 47), (.tmp 50)], (some 51), none, [1, 4, 4], none⟩,
  ⟨.alloc [(.v (.int .i64 0)), (.v (.int .i64 0))], (some 10), none, [], none⟩,
  ⟨.store 2 (.tmp 10) (.tmp 51), none, none, [6, 5, 5, 0, 1, 2, 3, 4, 5, 6], none⟩]
def d66r13S : List RO := [
  ⟨.addOff 2 (.tmp 9), (some 46), none, [], none⟩,
  ⟨.load 1 false (.tmp 46), (some 47), none, [0], none⟩,
  ⟨.load 5 true (.tmp 9), (some 48), none, [], none⟩,
  ⟨.mov (.tmp 4), (some 49), none, [], none⟩,
  ⟨.callF 91 [(.tmp 48), (.tmp 49)], (some 50), none, [2, 3], none⟩,
  ⟨.call 69 [(.tmp 47), (.tmp 50)], (some 51), none, [1, 4, 4], none⟩,
  ⟨.alloc [(.v (.int .i64 0)), (.v (.int .i64 0))], (some 10), none, [], none⟩,
  ⟨.store 2 (.tmp 10) (.tmp 51), none, none, [6, 5, 5, 0, 1, 2, 3, 4, 5, 6], none⟩]
def d66r14 : List RO := [
  ⟨.load 2 true (.tmp 10), (some 52), none, [], none⟩,
  ⟨.mov (.tmp 4), (some 53), none, [], none⟩,
  ⟨.addOff 0 (.tmp 9), (some 54), none, [], none⟩,
  ⟨.load 1 false (.tmp 54), (some 55), none, [2], none⟩,
  ⟨.idxAddr 2 (.tmp 53) (.tmp 55), (some 56), none, [1, 3], none⟩,
  ⟨.load 2 true (.tmp 56), (some 57), none, [4], none⟩,
  ⟨.call 92 [(.tmp 52), (.tmp 57)], (some 58), none, [0, 5], none⟩]
def d66r15 : List RO := [
  ⟨.mov (.tmp 4), (some 59), none, [], none⟩,
  ⟨.addOff 0 (.tmp 9), (some 60), none, [], none⟩,
  ⟨.load 1 false (.tmp 60), (some 61), none, [1], none⟩,
  ⟨.load 2 true (.tmp 10), (some 62), none, [], none⟩,
  ⟨.idxAddr 2 (.tmp 59) (.tmp 61), (some 63), none, [0, 2, 0, 1, 2, 3], none⟩,
  ⟨.store 2 (.tmp 63) (.tmp 62), none, none, [4, 3, 0, 1, 2, 3], none⟩]
def d66r16 : List RO := [
  ⟨.mov (.con (.v (.bool true))), (some 7), none, [], none⟩]
def d66r17 : List RO := [
  ⟨.mov (.tmp 8), (some 39), none, [], none⟩,
  ⟨.bin .add (.tmp 39) (.con (.v (.int .i64 1))), (some 40), none, [0], none⟩,
  ⟨.mov (.tmp 40), (some 8), none, [1, 0, 1], none⟩]
def d66r18 : List RO := [
  ⟨.addOff 1 (.tmp 1), (some 64), none, [], none⟩,
  ⟨.load 1 false (.tmp 64), (some 65), none, [0], none⟩,
  ⟨.len (.tmp 65), (some 66), none, [1], none⟩,
  ⟨.bin .sub (.tmp 66) (.con (.v (.int .i64 1))), (some 67), none, [2], none⟩,
  ⟨.mov (.tmp 67), (some 11), none, [3, 0, 1, 2, 3], none⟩]
def d66r19 : List RO := [
  ⟨.mov (.tmp 11), (some 68), none, [], none⟩,
  ⟨.bin .geq (.tmp 68) (.con (.v (.int .i64 0))), (some 69), none, [0], none⟩]
def d66r20 : List RO := [
  ⟨.addOff 1 (.tmp 1), (some 72), none, [], none⟩,
  ⟨.load 1 false (.tmp 72), (some 73), none, [0], none⟩,
  ⟨.mov (.tmp 11), (some 74), none, [], none⟩,
  ⟨.idxAddr 5 (.tmp 73) (.tmp 74), (some 75), none, [1, 2], none⟩,
  ⟨.load 5 true (.tmp 75), (some 76), none, [3], none⟩,
  ⟨.alloc [(.v (.int .i64 0)), .nil0, (.v (.int .i64 0)), (.v (.int .i64 0)), (.v (.int .i64 0))], (some 12), none, [], none⟩,
  ⟨.store 5 (.tmp 12) (.tmp 76), none, none, [5, 4, 0, 1, 2, 3, 4, 5], none⟩]
def d66r21 : List RO := [
  ⟨.mov (.tmp 4), (some 77), none, [], none⟩,
  ⟨.addOff 0 (.tmp 12), (some 78), none, [], none⟩,
  ⟨.load 1 false (.tmp 78), (some 79), none, [1], none⟩,
  ⟨.idxAddr 2 (.tmp 77) (.tmp 79), (some 80), none, [0, 2], none⟩,
  ⟨.load 2 true (.tmp 80), (some 81), none, [3], none⟩,
  ⟨.alloc [(.v (.int .i64 0)), (.v (.int .i64 0))], (some 13), none, [], none⟩,
  ⟨.store 2 (.tmp 13) (.tmp 81), none, none, [5, 4, 0, 1, 2, 3, 4, 5], none⟩]
def d66r22 : List RO := [
  ⟨.addOff 0 (.tmp 13), (some 82), none, [], none⟩,
  ⟨.load 1 false (.tmp 82), (some 83), none, [0], none⟩,
  ⟨.bin .lss (.tmp 83) (.con (.v (.int .i64 1099511627776))), (some 84), none, [1], none⟩,
  ⟨.mov (.tmp 84), (some 85), none, [2], none⟩,
  ⟨.addOff 2 (.tmp 12), (some 86), (some (85, true)), [3], none⟩,
  ⟨.load 1 false (.tmp 86), (some 87), (some (85, true)), [4, 3], none⟩,
  ⟨.load 5 true (.tmp 12), (some 88), (some (85, true)), [3], none⟩,
  ⟨.mov (.tmp 4), (some 89), (some (85, true)), [3], none⟩,
  ⟨.call 91 [(.tmp 88), (.tmp 89)], (some 90), (some (85, true)), [6, 7, 3, 3], none⟩,
  ⟨.call 69 [(.tmp 87), (.tmp 90)], (some 91), (some (85, true)), [5, 8, 8, 3], none⟩,
  ⟨.load 2 true (.tmp 13), (some 92), (some (85, true)), [3], none⟩,
  ⟨.eqT false true [(.int .i64), (.int .i64)] (.tmp 91) (.tmp 92), (some 93), (some (85, true)), [9, 10, 3], none⟩,
  ⟨.pick (.tmp 85) (.tmp 93) (.con (.v (.bool false))), (some 94), none, [3, 11], none⟩]
def d66r22S : List RO := [
  ⟨.addOff 0 (.tmp 13), (some 82), none, [], none⟩,
  ⟨.load 1 false (.tmp 82), (some 83), none, [0], none⟩,
  ⟨.bin .lss (.tmp 83) (.con (.v (.int .i64 1099511627776))), (some 84), none, [1], none⟩,
  ⟨.mov (.tmp 84), (some 85), none, [2], none⟩,
  ⟨.addOff 2 (.tmp 12), (some 86), (some (85, true)), [3], none⟩,
  ⟨.load 1 false (.tmp 86), (some 87), (some (85, true)), [4, 3], none⟩,
  ⟨.load 5 true (.tmp 12), (some 88), (some (85, true)), [3], none⟩,
  ⟨.mov (.tmp 4), (some 89), (some (85, true)), [3], none⟩,
  ⟨.callF 91 [(.tmp 88), (.tmp 89)], (some 90), (some (85, true)), [6, 7, 3, 3], none⟩,
  ⟨.call 69 [(.tmp 87), (.tmp 90)], (some 91), (some (85, true)), [5, 8, 8, 3], none⟩,
  ⟨.load 2 true (.tmp 13), (some 92), (some (85, true)), [3], none⟩,
  ⟨.eqT false true [(.int .i64), (.int .i64)] (.tmp 91) (.tmp 92), (some 93), (some (85, true)), [9, 10, 3], none⟩,
  ⟨.pick (.tmp 85) (.tmp 93) (.con (.v (.bool false))), (some 94), none, [3, 11], none⟩]
def d66r23 : List RO := [
  ⟨.mov (.tmp 5), (some 95), none, [], none⟩,
  ⟨.addOff 0 (.tmp 12), (some 96), none, [], none⟩,
  ⟨.load 1 false (.tmp 96), (some 97), none, [1], none⟩,
  ⟨.mov (.tmp 11), (some 98), none, [], none⟩,
  ⟨.idxAddr 1 (.tmp 95) (.tmp 97), (some 99), none, [0, 2, 0, 1, 2, 3], none⟩,
  ⟨.store 1 (.tmp 99) (.tmp 98), none, none, [4, 3, 0, 1, 2, 3], none⟩]
def d66r24 : List RO := [
  ⟨.mov (.tmp 11), (some 70), none, [], none⟩,
  ⟨.bin .sub (.tmp 70) (.con (.v (.int .i64 1))), (some 71), none, [0], none⟩,
  ⟨.mov (.tmp 71), (some 11), none, [1, 0, 1], none⟩]
def d66r25 : List RO := [
  ⟨.mov (.tmp 4), (some 100), none, [], none⟩,
  ⟨.mov (.tmp 5), (some 101), none, [], none⟩,
  ⟨.mov (.tmp 100), (some 2), none, [0, 0], none⟩,
  ⟨.mov (.tmp 101), (some 3), none, [1, 2, 0, 1, 2], none⟩]
def d66 : DC := (.seq (.region false d66r0)
  (.seq (.region false d66r1)
  (.seq (.region false d66r2)
  (.seq (.seq (.region false d66r3)
  (.block 0 (.loop (.seq (.seq (.region false d66r4)
  (.cond (.tmp 23) .skip
  (.exit 0)))
  (.seq (.block 1 (.region false d66r5))
  (.region false d66r6))))))
  (.seq (.seq (.region false d66r7)
  (.block 2 (.loop (.seq (.seq (.region false d66r8)
  (.cond (.tmp 33) .skip
  (.exit 2)))
  (.block 3 (.seq (.region false d66r9)
  (.seq (.region false d66r10)
  (.block 4 (.loop (.seq (.seq (.region false d66r11)
  (.cond (.tmp 38) .skip
  (.exit 4)))
  (.seq (.block 5 (.seq (.region false d66r12)
  (.seq (.region true d66r13)
  (.seq (.region true d66r14)
  (.cond (.tmp 58) (.seq (.region false d66r15)
  (.region false d66r16))
  .skip)))))
  (.region false d66r17))))))))))))
  (.seq (.seq (.region false d66r18)
  (.block 6 (.loop (.seq (.seq (.region false d66r19)
  (.cond (.tmp 69) .skip
  (.exit 6)))
  (.seq (.block 7 (.seq (.region false d66r20)
  (.seq (.region false d66r21)
  (.seq (.region true d66r22)
  (.cond (.tmp 94) (.region false d66r23)
  .skip)))))
  (.region false d66r24))))))
  (.seq (.region false d66r25)
  .ret)))))))
def d66res : List DRes := [.slot 2, .slot 3]
theorem c66 [Laid] : CodeOf Tryz.prog 66 102 d66 d66res := ⟨Tryz.f66, by kernel_rfl, by kernel_rfl, by kernel_rfl, by kernel_rfl, by kernel_rfl⟩
-- emendate/emendateref38.Tails
def d93r0 : List RO := [
  ⟨.box (.tmp 0), (some 1), none, [], none⟩,
  ⟨.mov (.con .nil0), (some 2), none, [], none⟩]
def d93r1 : List RO := [
  ⟨.addOff 0 (.tmp 1), (some 3), none, [], none⟩,
  ⟨.load 1 false (.tmp 3), (some 4), none, [0], none⟩]
def d93r2 : List RO := [
  ⟨.bin .eql (.tmp 4) (.con (.v (.int .i64 3))), (some 6), none, [], none⟩,
  ⟨.mov (.tmp 6), (some 5), none, [0], none⟩]
def d93r3 : List RO := [
  ⟨.addOff 2 (.tmp 1), (some 7), none, [], none⟩,
  ⟨.load 1 false (.tmp 7), (some 8), none, [0], none⟩,
  ⟨.bslice 1 1 [(.v (.int .i64 0))] [(0, 1, (.tmp 8))], (some 9), none, [1], none⟩,
  ⟨.mov (.tmp 9), (some 2), none, [2, 0, 1, 2], none⟩]
def d93r4 : List RO := [
  ⟨.bin .eql (.tmp 4) (.con (.v (.int .i64 4))), (some 11), none, [], none⟩,
  ⟨.mov (.tmp 11), (some 10), none, [0], none⟩]
def d93r5 : List RO := [
  ⟨.addOff 2 (.tmp 1), (some 12), none, [], none⟩,
  ⟨.load 1 false (.tmp 12), (some 13), none, [0], none⟩,
  ⟨.addOff 3 (.tmp 1), (some 14), none, [], none⟩,
  ⟨.load 1 false (.tmp 14), (some 15), none, [2], none⟩,
  ⟨.bslice 2 1 [(.v (.int .i64 0)), (.v (.int .i64 0))] [(0, 1, (.tmp 13)), (1, 1, (.tmp 15))], (some 16), none, [1, 3], none⟩,
  ⟨.mov (.tmp 16), (some 2), none, [4, 0, 1, 2, 3, 4], none⟩]
def d93r6 : List RO := [
  ⟨.mov (.con .nil0), (some 2), none, [], none⟩]
def d93 : DC := (.seq (.region false d93r0)
  (.seq (.seq (.region false d93r1)
  (.block 0 (.seq (.region false d93r2)
  (.cond (.tmp 5) (.seq (.region false d93r3)
  .ret)
  (.seq (.region false d93r4)
  (.cond (.tmp 10) (.seq (.region false d93r5)
  .ret)
  .skip))))))
  (.seq (.region false d93r6)
  .ret)))
def d93res : List DRes := [.slot 2]
theorem c93 [Laid] : CodeOf Tryz.prog 93 17 d93 d93res := ⟨Tryz.f93, by kernel_rfl, by kernel_rfl, by kernel_rfl, by kernel_rfl, by kernel_rfl⟩
-- emendate/emendateref38.Graph
def d67r0 : List RO := [
  ⟨.box (.tmp 0), (some 2), none, [], none⟩,
  ⟨.alloc [(.v (.int .i64 0)), .nil0], (some 4), none, [], none⟩]
def d67r1 : List RO := [
  ⟨.mov (.con .nil0), (some 5), none, [], none⟩]
def d67r2 : List RO := [
  ⟨.mov (.con (.v (.int .i64 0))), (some 6), none, [], none⟩]
def d67r3 : List RO := [
  ⟨.mov (.tmp 6), (some 9), none, [], none⟩,
  ⟨.addOff 3 (.tmp 2), (some 10), none, [], none⟩,
  ⟨.load 1 false (.tmp 10), (some 11), none, [1], none⟩,
  ⟨.len (.tmp 11), (some 12), none, [2], none⟩,
  ⟨.bin .lss (.tmp 9) (.tmp 12), (some 13), none, [0, 3], none⟩]
def d67r4 : List RO := [
  ⟨.addOff 3 (.tmp 2), (some 16), none, [], none⟩,
  ⟨.load 1 false (.tmp 16), (some 17), none, [0], none⟩,
  ⟨.mov (.tmp 6), (some 18), none, [], none⟩,
  ⟨.idxAddr 6 (.tmp 17) (.tmp 18), (some 19), none, [1, 2], none⟩,
  ⟨.load 6 true (.tmp 19), (some 20), none, [3], none⟩,
  ⟨.alloc [(.v (.int .i64 0)), (.v (.int .i64 0)), (.v (.int .i64 0)), (.v (.int .i64 0)), (.v (.int .i64 0)), (.v (.int .i64 0))], (some 7), none, [], none⟩,
  ⟨.store 6 (.tmp 7) (.tmp 20), none, none, [5, 4, 0, 1, 2, 3, 4, 5], none⟩]
def d67r5 : List RO := [
  ⟨.addOff 4 (.tmp 7), (some 21), none, [], none⟩,
  ⟨.load 1 false (.tmp 21), (some 22), none, [0], none⟩,
  ⟨.mov (.tmp 22), (some 8), none, [1, 0, 1], none⟩]
def d67r6 : List RO := [
  ⟨.addOff 0 (.tmp 7), (some 23), none, [], none⟩,
  ⟨.load 1 false (.tmp 23), (some 24), none, [0], none⟩,
  ⟨.bin .eql (.tmp 24) (.con (.v (.int .i64 2))), (some 25), none, [1], none⟩]
def d67r7 : List RO := [
  ⟨.mov (.tmp 8), (some 26), none, [], none⟩,
  ⟨.mov (.tmp 1), (some 27), none, [], none⟩,
  ⟨.addOff 2 (.tmp 7), (some 28), none, [], none⟩,
  ⟨.load 1 false (.tmp 28), (some 29), none, [2], none⟩,
  ⟨.idxAddr 1 (.tmp 27) (.tmp 29), (some 30), none, [1, 3], none⟩,
  ⟨.load 1 false (.tmp 30), (some 31), none, [4], none⟩,
  ⟨.bin .add (.tmp 26) (.tmp 31), (some 32), none, [0, 5], none⟩,
  ⟨.mov (.tmp 32), (some 8), none, [6, 0, 1, 2, 3, 4, 5, 6], none⟩]
def d67r8 : List RO := [
  ⟨.mov (.tmp 5), (some 33), none, [], none⟩,
  ⟨.addOff 1 (.tmp 7), (some 34), none, [], none⟩,
  ⟨.load 1 false (.tmp 34), (some 35), none, [1], none⟩,
  ⟨.load 6 true (.tmp 7), (some 36), none, [], none⟩,
  ⟨.call 93 [(.tmp 36)], (some 37), none, [3], none⟩,
  ⟨.mov (.tmp 8), (some 38), none, [], none⟩,
  ⟨.build [(.v (.int .i64 0)), .nil0, (.v (.int .i64 0)), (.v (.int .i64 0)), (.v (.int .i64 0))] [(0, 1, (.tmp 35)), (1, 1, (.tmp 37)), (2, 1, (.tmp 38))], (some 39), none, [2, 4, 5], none⟩,
  ⟨.bslice 1 5 [(.v (.int .i64 0)), .nil0, (.v (.int .i64 0)), (.v (.int .i64 0)), (.v (.int .i64 0))] [(0, 5, (.tmp 39))], (some 40), none, [6], none⟩,
  ⟨.append 156 5 56 (.tmp 33) (.tmp 40), (some 41), none, [0, 7, 4], none⟩,
  ⟨.mov (.tmp 41), (some 5), none, [8, 8, 0, 1, 2, 3, 4, 5, 6, 7, 8], none⟩]
def d67r9 : List RO := [
  ⟨.mov (.tmp 6), (some 14), none, [], none⟩,
  ⟨.bin .add (.tmp 14) (.con (.v (.int .i64 1))), (some 15), none, [0], none⟩,
  ⟨.mov (.tmp 15), (some 6), none, [1, 0, 1], none⟩]
def d67r10 : List RO := [
  ⟨.addOff 1 (.tmp 2), (some 42), none, [], none⟩,
  ⟨.load 1 false (.tmp 42), (some 43), none, [0], none⟩,
  ⟨.mov (.tmp 5), (some 44), none, [], none⟩,
  ⟨.build [(.v (.int .i64 0)), .nil0] [(0, 1, (.tmp 43)), (1, 1, (.tmp 44))], (some 45), none, [1, 2], none⟩,
  ⟨.store 2 (.tmp 4) (.tmp 45), none, none, [3, 0, 1, 2, 3], none⟩]
def d67 : DC := (.seq (.region false d67r0)
  (.seq (.region false d67r1)
  (.seq (.seq (.region false d67r2)
  (.block 0 (.loop (.seq (.seq (.region false d67r3)
  (.cond (.tmp 13) .skip
  (.exit 0)))
  (.seq (.block 1 (.seq (.region false d67r4)
  (.seq (.region false d67r5)
  (.seq (.seq (.region false d67r6)
  (.cond (.tmp 25) (.region false d67r7)
  .skip))
  (.region true d67r8)))))
  (.region false d67r9))))))
  (.seq (.region false d67r10)
  .ret))))
def d67res : List DRes := [.cell 4 2 true]
theorem c67 [Laid] : CodeOf Tryz.prog 67 46 d67 d67res := ⟨Tryz.f67, by kernel_rfl, by kernel_rfl, by kernel_rfl, by kernel_rfl, by kernel_rfl⟩
-- emendate/emendateref38.Prices
def d44r0 : List RO := [
  ⟨.box (.tmp 0), (some 2), none, [], none⟩,
  ⟨.mov (.con (.v (.bool false))), (some 4), none, [], none⟩]
def d44r1 : List RO := [
  ⟨.mov (.tmp 1), (some 6), none, [], none⟩,
  ⟨.len (.tmp 6), (some 7), none, [0], none⟩,
  ⟨.addOff 0 (.tmp 2), (some 8), none, [], none⟩,
  ⟨.load 1 false (.tmp 8), (some 9), none, [2], none⟩,
  ⟨.bin .neq (.tmp 7) (.tmp 9), (some 10), none, [1, 3], none⟩]
def d44r2 : List RO := [
  ⟨.mov (.con (.v (.bool false))), (some 4), none, [], none⟩]
def d44r3 : List RO := [
  ⟨.mov (.con (.v (.int .i64 0))), (some 5), none, [], none⟩]
def d44r4 : List RO := [
  ⟨.mov (.tmp 5), (some 11), none, [], none⟩,
  ⟨.mov (.tmp 1), (some 12), none, [], none⟩,
  ⟨.len (.tmp 12), (some 13), none, [1], none⟩,
  ⟨.bin .lss (.tmp 11) (.tmp 13), (some 14), none, [0, 2], none⟩]
def d44r5 : List RO := [
  ⟨.mov (.tmp 1), (some 17), none, [], none⟩,
  ⟨.mov (.tmp 5), (some 18), none, [], none⟩,
  ⟨.idxAddr 1 (.tmp 17) (.tmp 18), (some 19), none, [0, 1], none⟩,
  ⟨.load 1 false (.tmp 19), (some 20), none, [2], none⟩,
  ⟨.bin .lss (.tmp 20) (.con (.v (.int .i64 1))), (some 21), none, [3], none⟩,
  ⟨.mov (.tmp 21), (some 22), none, [4], none⟩,
  ⟨.mov (.tmp 1), (some 23), (some (22, false)), [5], none⟩,
  ⟨.mov (.tmp 5), (some 24), (some (22, false)), [5], none⟩,
  ⟨.idxAddr 1 (.tmp 23) (.tmp 24), (some 25), (some (22, false)), [6, 7, 5], none⟩,
  ⟨.load 1 false (.tmp 25), (some 26), (some (22, false)), [8, 5], none⟩,
  ⟨.bin .gtr (.tmp 26) (.con (.v (.int .i64 60000))), (some 27), (some (22, false)), [9, 5], none⟩,
  ⟨.pick (.tmp 22) (.con (.v (.bool true))) (.tmp 27), (some 28), none, [5, 10], none⟩]
def d44r6 : List RO := [
  ⟨.mov (.con (.v (.bool false))), (some 4), none, [], none⟩]
def d44r7 : List RO := [
  ⟨.mov (.tmp 5), (some 15), none, [], none⟩,
  ⟨.bin .add (.tmp 15) (.con (.v (.int .i64 1))), (some 16), none, [0], none⟩,
  ⟨.mov (.tmp 16), (some 5), none, [1, 0, 1], none⟩]
def d44r8 : List RO := [
  ⟨.mov (.con (.v (.bool true))), (some 4), none, [], none⟩]
def d44 : DC := (.seq (.region false d44r0)
  (.seq (.seq (.region false d44r1)
  (.cond (.tmp 10) (.seq (.region false d44r2)
  .ret)
  .skip))
  (.seq (.seq (.region false d44r3)
  (.block 0 (.loop (.seq (.seq (.region false d44r4)
  (.cond (.tmp 14) .skip
  (.exit 0)))
  (.seq (.block 1 (.seq (.region false d44r5)
  (.cond (.tmp 28) (.seq (.region false d44r6)
  .ret)
  .skip)))
  (.region false d44r7))))))
  (.seq (.region false d44r8)
  .ret))))
def d44res : List DRes := [.slot 4]
theorem c44 [Laid] : CodeOf Tryz.prog 44 29 d44 d44res := ⟨Tryz.f44, by kernel_rfl, by kernel_rfl, by kernel_rfl, by kernel_rfl, by kernel_rfl⟩
-- emendate/emendateref38.Values
def d45r0 : List RO := [
  ⟨.box (.tmp 0), (some 2), none, [], none⟩,
  ⟨.mov (.con .nil0), (some 4), none, [], none⟩]
def d45r1 : List RO := [
  ⟨.load 4 true (.tmp 2), (some 7), none, [], none⟩,
  ⟨.call 20 [(.tmp 7)], (some 8), none, [0], none⟩,
  ⟨.un .not (.tmp 8), (some 9), none, [1], none⟩,
  ⟨.mov (.tmp 9), (some 10), none, [2, 1], none⟩,
  ⟨.load 4 true (.tmp 2), (some 11), (some (10, false)), [3], none⟩,
  ⟨.mov (.tmp 1), (some 12), (some (10, false)), [3], none⟩,
  ⟨.call 44 [(.tmp 11), (.tmp 12)], (some 13), (some (10, false)), [4, 5, 3, 3], none⟩,
  ⟨.un .not (.tmp 13), (some 14), (some (10, false)), [6, 3], none⟩,
  ⟨.pick (.tmp 10) (.con (.v (.bool true))) (.tmp 14), (some 15), none, [3, 7], none⟩]
def d45r2 : List RO := [
  ⟨.mov (.con .nil0), (some 4), none, [], none⟩]
def d45r3 : List RO := [
  ⟨.load 4 true (.tmp 2), (some 17), none, [], none⟩,
  ⟨.mov (.tmp 1), (some 18), none, [], none⟩,
  ⟨.call 67 [(.tmp 17), (.tmp 18)], (some 19), none, [0, 1], none⟩,
  ⟨.call 66 [(.tmp 19)], (some 20), none, [2, 2], none⟩,
  ⟨.mov (.tmp 20), (some 16), none, [3], none⟩,
  ⟨.extract 0 (.tmp 16), (some 21), none, [4], none⟩,
  ⟨.extract 1 (.tmp 16), (some 22), none, [4], none⟩,
  ⟨.mov (.tmp 21), (some 5), none, [5, 3, 0, 1, 2, 3, 4, 5], none⟩,
  ⟨.mov (.tmp 22), (some 6), none, [6, 7, 0, 1, 2, 3, 4, 5, 6, 7], none⟩]
def d45r4 : List RO := [
  ⟨.mov (.tmp 5), (some 23), none, [], none⟩,
  ⟨.mov (.tmp 23), (some 4), none, [0, 0], none⟩]
def d45 : DC := (.seq (.region false d45r0)
  (.seq (.seq (.region false d45r1)
  (.cond (.tmp 15) (.seq (.region false d45r2)
  .ret)
  .skip))
  (.seq (.region false d45r3)
  (.seq (.region false d45r4)
  .ret))))
def d45res : List DRes := [.slot 4]
theorem c45 [Laid] : CodeOf Tryz.prog 45 24 d45 d45res := ⟨Tryz.f45, by kernel_rfl, by kernel_rfl, by kernel_rfl, by kernel_rfl, by kernel_rfl⟩
-- emendate/emendateref38.Moderate
def d22r0 : List RO := [
  ⟨.box (.tmp 0), (some 2), none, [], none⟩,
  ⟨.mov (.con (.v (.bool false))), (some 4), none, [], none⟩]
def d22r1 : List RO := [
  ⟨.load 4 true (.tmp 2), (some 7), none, [], none⟩,
  ⟨.call 20 [(.tmp 7)], (some 8), none, [0], none⟩,
  ⟨.un .not (.tmp 8), (some 9), none, [1], none⟩,
  ⟨.mov (.tmp 9), (some 10), none, [2, 1], none⟩,
  ⟨.load 4 true (.tmp 2), (some 11), (some (10, false)), [3], none⟩,
  ⟨.mov (.tmp 1), (some 12), (some (10, false)), [3], none⟩,
  ⟨.call 44 [(.tmp 11), (.tmp 12)], (some 13), (some (10, false)), [4, 5, 3, 3], none⟩,
  ⟨.un .not (.tmp 13), (some 14), (some (10, false)), [6, 3], none⟩,
  ⟨.pick (.tmp 10) (.con (.v (.bool true))) (.tmp 14), (some 15), none, [3, 7], none⟩]
def d22r2 : List RO := [
  ⟨.mov (.con (.v (.bool false))), (some 4), none, [], none⟩]
def d22r3 : List RO := [
  ⟨.load 4 true (.tmp 2), (some 16), none, [], none⟩,
  ⟨.mov (.tmp 1), (some 17), none, [], none⟩,
  ⟨.call 45 [(.tmp 16), (.tmp 17)], (some 18), none, [0, 1], none⟩,
  ⟨.mov (.tmp 18), (some 5), none, [2, 2, 0, 1, 2], none⟩]
def d22r4 : List RO := [
  ⟨.mov (.con (.v (.int .i64 0))), (some 6), none, [], none⟩]
def d22r5 : List RO := [
  ⟨.mov (.tmp 6), (some 19), none, [], none⟩,
  ⟨.mov (.tmp 5), (some 20), none, [], none⟩,
  ⟨.len (.tmp 20), (some 21), none, [1], none⟩,
  ⟨.bin .lss (.tmp 19) (.tmp 21), (some 22), none, [0, 2], none⟩]
def d22r6 : List RO := [
  ⟨.mov (.tmp 5), (some 25), none, [], none⟩,
  ⟨.mov (.tmp 6), (some 26), none, [], none⟩,
  ⟨.idxAddr 2 (.tmp 25) (.tmp 26), (some 27), none, [0, 1], none⟩,
  ⟨.addOff 1 (.tmp 27), (some 28), none, [2], none⟩,
  ⟨.load 1 false (.tmp 28), (some 29), none, [3], none⟩,
  ⟨.bin .gtr (.tmp 29) (.con (.v (.int .i64 1000))), (some 30), none, [4], none⟩]
def d22r7 : List RO := [
  ⟨.mov (.con (.v (.bool false))), (some 4), none, [], none⟩]
def d22r8 : List RO := [
  ⟨.mov (.tmp 6), (some 23), none, [], none⟩,
  ⟨.bin .add (.tmp 23) (.con (.v (.int .i64 1))), (some 24), none, [0], none⟩,
  ⟨.mov (.tmp 24), (some 6), none, [1, 0, 1], none⟩]
def d22r9 : List RO := [
  ⟨.mov (.con (.v (.bool true))), (some 4), none, [], none⟩]
def d22 : DC := (.seq (.region false d22r0)
  (.seq (.seq (.region false d22r1)
  (.cond (.tmp 15) (.seq (.region false d22r2)
  .ret)
  .skip))
  (.seq (.region false d22r3)
  (.seq (.seq (.region false d22r4)
  (.block 0 (.loop (.seq (.seq (.region false d22r5)
  (.cond (.tmp 22) .skip
  (.exit 0)))
  (.seq (.block 1 (.seq (.region false d22r6)
  (.cond (.tmp 30) (.seq (.region false d22r7)
  .ret)
  .skip)))
  (.region false d22r8))))))
  (.seq (.region false d22r9)
  .ret)))))
def d22res : List DRes := [.slot 4]
theorem c22 [Laid] : CodeOf Tryz.prog 22 31 d22 d22res := ⟨Tryz.f22, by kernel_rfl, by kernel_rfl, by kernel_rfl, by kernel_rfl, by kernel_rfl⟩
-- emendate/emendateref24.Valid
def d20r0 : List RO := [
  ⟨.box (.tmp 0), (some 1), none, [], none⟩,
  ⟨.mov (.con (.v (.bool false))), (some 2), none, [], none⟩]
def d20r1 : List RO := [
  ⟨.addOff 0 (.tmp 1), (some 6), none, [], none⟩,
  ⟨.load 1 false (.tmp 6), (some 7), none, [0], none⟩,
  ⟨.bin .lss (.tmp 7) (.con (.v (.int .i64 0))), (some 8), none, [1], none⟩,
  ⟨.mov (.tmp 8), (some 9), none, [2], none⟩,
  ⟨.addOff 0 (.tmp 1), (some 10), (some (9, false)), [3], none⟩,
  ⟨.load 1 false (.tmp 10), (some 11), (some (9, false)), [4, 3], none⟩,
  ⟨.bin .gtr (.tmp 11) (.con (.v (.int .i64 120))), (some 12), (some (9, false)), [5, 3], none⟩,
  ⟨.pick (.tmp 9) (.con (.v (.bool true))) (.tmp 12), (some 13), none, [3, 6], none⟩,
  ⟨.mov (.tmp 13), (some 14), none, [7, 3], none⟩,
  ⟨.addOff 1 (.tmp 1), (some 15), (some (14, false)), [8], none⟩,
  ⟨.load 1 false (.tmp 15), (some 16), (some (14, false)), [9, 8], none⟩,
  ⟨.bin .lss (.tmp 16) (.con (.v (.int .i64 1))), (some 17), (some (14, false)), [10, 8], none⟩,
  ⟨.pick (.tmp 14) (.con (.v (.bool true))) (.tmp 17), (some 18), none, [8, 11], none⟩,
  ⟨.mov (.tmp 18), (some 19), none, [12, 8], none⟩,
  ⟨.addOff 1 (.tmp 1), (some 20), (some (19, false)), [13], none⟩,
  ⟨.load 1 false (.tmp 20), (some 21), (some (19, false)), [14, 13], none⟩,
  ⟨.bin .gtr (.tmp 21) (.con (.v (.int .i64 1000))), (some 22), (some (19, false)), [15, 13], none⟩,
  ⟨.pick (.tmp 19) (.con (.v (.bool true))) (.tmp 22), (some 23), none, [13, 16], none⟩,
  ⟨.mov (.tmp 23), (some 24), none, [17, 13], none⟩,
  ⟨.addOff 2 (.tmp 1), (some 25), (some (24, false)), [18], none⟩,
  ⟨.load 1 false (.tmp 25), (some 26), (some (24, false)), [19, 18], none⟩,
  ⟨.bin .lss (.tmp 26) (.con (.v (.int .i64 0))), (some 27), (some (24, false)), [20, 18], none⟩,
  ⟨.pick (.tmp 24) (.con (.v (.bool true))) (.tmp 27), (some 28), none, [18, 21], none⟩,
  ⟨.mov (.tmp 28), (some 29), none, [22, 18], none⟩,
  ⟨.addOff 2 (.tmp 1), (some 30), (some (29, false)), [23], none⟩,
  ⟨.load 1 false (.tmp 30), (some 31), (some (29, false)), [24, 23], none⟩,
  ⟨.addOff 1 (.tmp 1), (some 32), (some (29, false)), [23], none⟩,
  ⟨.load 1 false (.tmp 32), (some 33), (some (29, false)), [26, 23], none⟩,
  ⟨.bin .geq (.tmp 31) (.tmp 33), (some 34), (some (29, false)), [25, 27, 23], none⟩,
  ⟨.pick (.tmp 29) (.con (.v (.bool true))) (.tmp 34), (some 35), none, [23, 28], none⟩,
  ⟨.mov (.tmp 35), (some 36), none, [29, 23], none⟩,
  ⟨.addOff 3 (.tmp 1), (some 37), (some (36, false)), [30], none⟩,
  ⟨.load 1 false (.tmp 37), (some 38), (some (36, false)), [31, 30], none⟩,
  ⟨.len (.tmp 38), (some 39), (some (36, false)), [32, 30], none⟩,
  ⟨.bin .gtr (.tmp 39) (.con (.v (.int .i64 600))), (some 40), (some (36, false)), [33, 30], none⟩,
  ⟨.pick (.tmp 36) (.con (.v (.bool true))) (.tmp 40), (some 41), none, [30, 34], none⟩]
def d20r2 : List RO := [
  ⟨.mov (.con (.v (.bool false))), (some 2), none, [], none⟩]
def d20r3 : List RO := [
  ⟨.mov (.con (.v (.int .i64 0))), (some 3), none, [], none⟩]
def d20r4 : List RO := [
  ⟨.mov (.tmp 3), (some 42), none, [], none⟩,
  ⟨.addOff 3 (.tmp 1), (some 43), none, [], none⟩,
  ⟨.load 1 false (.tmp 43), (some 44), none, [1], none⟩,
  ⟨.len (.tmp 44), (some 45), none, [2], none⟩,
  ⟨.bin .lss (.tmp 42) (.tmp 45), (some 46), none, [0, 3], none⟩]
def d20r5 : List RO := [
  ⟨.addOff 3 (.tmp 1), (some 49), none, [], none⟩,
  ⟨.load 1 false (.tmp 49), (some 50), none, [0], none⟩,
  ⟨.mov (.tmp 3), (some 51), none, [], none⟩,
  ⟨.idxAddr 6 (.tmp 50) (.tmp 51), (some 52), none, [1, 2], none⟩,
  ⟨.load 6 true (.tmp 52), (some 53), none, [3], none⟩,
  ⟨.alloc [(.v (.int .i64 0)), (.v (.int .i64 0)), (.v (.int .i64 0)), (.v (.int .i64 0)), (.v (.int .i64 0)), (.v (.int .i64 0))], (some 4), none, [], none⟩,
  ⟨.store 6 (.tmp 4) (.tmp 53), none, none, [5, 4, 0, 1, 2, 3, 4, 5], none⟩]
def d20r6 : List RO := [
  ⟨.addOff 1 (.tmp 4), (some 54), none, [], none⟩,
  ⟨.load 1 false (.tmp 54), (some 55), none, [0], none⟩,
  ⟨.bin .lss (.tmp 55) (.con (.v (.int .i64 0))), (some 56), none, [1], none⟩,
  ⟨.mov (.tmp 56), (some 57), none, [2], none⟩,
  ⟨.addOff 1 (.tmp 4), (some 58), (some (57, false)), [3], none⟩,
  ⟨.load 1 false (.tmp 58), (some 59), (some (57, false)), [4, 3], none⟩,
  ⟨.addOff 1 (.tmp 1), (some 60), (some (57, false)), [3], none⟩,
  ⟨.load 1 false (.tmp 60), (some 61), (some (57, false)), [6, 3], none⟩,
  ⟨.bin .geq (.tmp 59) (.tmp 61), (some 62), (some (57, false)), [5, 7, 3], none⟩,
  ⟨.pick (.tmp 57) (.con (.v (.bool true))) (.tmp 62), (some 63), none, [3, 8], none⟩,
  ⟨.mov (.tmp 63), (some 64), none, [9, 3], none⟩,
  ⟨.addOff 4 (.tmp 4), (some 65), (some (64, false)), [10], none⟩,
  ⟨.load 1 false (.tmp 65), (some 66), (some (64, false)), [11, 10], none⟩,
  ⟨.bin .lss (.tmp 66) (.con (.v (.int .i64 0))), (some 67), (some (64, false)), [12, 10], none⟩,
  ⟨.pick (.tmp 64) (.con (.v (.bool true))) (.tmp 67), (some 68), none, [10, 13], none⟩,
  ⟨.mov (.tmp 68), (some 69), none, [14, 10], none⟩,
  ⟨.addOff 4 (.tmp 4), (some 70), (some (69, false)), [15], none⟩,
  ⟨.load 1 false (.tmp 70), (some 71), (some (69, false)), [16, 15], none⟩,
  ⟨.bin .gtr (.tmp 71) (.con (.v (.int .i64 1000))), (some 72), (some (69, false)), [17, 15], none⟩,
  ⟨.pick (.tmp 69) (.con (.v (.bool true))) (.tmp 72), (some 73), none, [15, 18], none⟩,
  ⟨.mov (.tmp 73), (some 74), none, [19, 15], none⟩,
  ⟨.addOff 5 (.tmp 4), (some 75), (some (74, false)), [20], none⟩,
  ⟨.load 1 false (.tmp 75), (some 76), (some (74, false)), [21, 20], none⟩,
  ⟨.bin .lss (.tmp 76) (.con (.v (.int .i64 (-1)))), (some 77), (some (74, false)), [22, 20], none⟩,
  ⟨.pick (.tmp 74) (.con (.v (.bool true))) (.tmp 77), (some 78), none, [20, 23], none⟩]
def d20r7 : List RO := [
  ⟨.mov (.con (.v (.bool false))), (some 2), none, [], none⟩]
def d20r8 : List RO := [
  ⟨.mov (.con (.v (.bool false))), (some 5), none, [], none⟩]
def d20r9 : List RO := [
  ⟨.addOff 0 (.tmp 4), (some 79), none, [], none⟩,
  ⟨.load 1 false (.tmp 79), (some 80), none, [0], none⟩]
def d20r10 : List RO := [
  ⟨.bin .eql (.tmp 80) (.con (.v (.int .i64 1))), (some 82), none, [], none⟩,
  ⟨.mov (.tmp 82), (some 81), none, [0], none⟩]
def d20r11 : List RO := [
  ⟨.addOff 2 (.tmp 4), (some 83), none, [], none⟩,
  ⟨.load 1 false (.tmp 83), (some 84), none, [0], none⟩,
  ⟨.bin .eql (.tmp 84) (.con (.v (.int .i64 0))), (some 85), none, [1], none⟩,
  ⟨.mov (.tmp 85), (some 86), none, [2], none⟩,
  ⟨.addOff 3 (.tmp 4), (some 87), (some (86, true)), [3], none⟩,
  ⟨.load 1 false (.tmp 87), (some 88), (some (86, true)), [4, 3], none⟩,
  ⟨.bin .eql (.tmp 88) (.con (.v (.int .i64 0))), (some 89), (some (86, true)), [5, 3], none⟩,
  ⟨.pick (.tmp 86) (.tmp 89) (.con (.v (.bool false))), (some 90), none, [3, 6], none⟩,
  ⟨.mov (.tmp 90), (some 5), none, [7, 3, 0, 1, 2, 3, 4, 5, 6, 7], none⟩]
def d20r12 : List RO := [
  ⟨.bin .eql (.tmp 80) (.con (.v (.int .i64 2))), (some 92), none, [], none⟩,
  ⟨.mov (.tmp 92), (some 91), none, [0], none⟩]
def d20r13 : List RO := [
  ⟨.addOff 2 (.tmp 4), (some 93), none, [], none⟩,
  ⟨.load 1 false (.tmp 93), (some 94), none, [0], none⟩,
  ⟨.bin .geq (.tmp 94) (.con (.v (.int .i64 0))), (some 95), none, [1], none⟩,
  ⟨.mov (.tmp 95), (some 96), none, [2], none⟩,
  ⟨.addOff 2 (.tmp 4), (some 97), (some (96, true)), [3], none⟩,
  ⟨.load 1 false (.tmp 97), (some 98), (some (96, true)), [4, 3], none⟩,
  ⟨.addOff 0 (.tmp 1), (some 99), (some (96, true)), [3], none⟩,
  ⟨.load 1 false (.tmp 99), (some 100), (some (96, true)), [6, 3], none⟩,
  ⟨.bin .lss (.tmp 98) (.tmp 100), (some 101), (some (96, true)), [5, 7, 3], none⟩,
  ⟨.pick (.tmp 96) (.tmp 101) (.con (.v (.bool false))), (some 102), none, [3, 8], none⟩,
  ⟨.mov (.tmp 102), (some 103), none, [9, 3], none⟩,
  ⟨.addOff 3 (.tmp 4), (some 104), (some (103, true)), [10], none⟩,
  ⟨.load 1 false (.tmp 104), (some 105), (some (103, true)), [11, 10], none⟩,
  ⟨.bin .eql (.tmp 105) (.con (.v (.int .i64 0))), (some 106), (some (103, true)), [12, 10], none⟩,
  ⟨.pick (.tmp 103) (.tmp 106) (.con (.v (.bool false))), (some 107), none, [10, 13], none⟩,
  ⟨.mov (.tmp 107), (some 5), none, [14, 10, 0, 1, 2, 3, 4, 5, 6, 7, 8, 9, 10, 11, 12, 13, 14], none⟩]
def d20r14 : List RO := [
  ⟨.bin .eql (.tmp 80) (.con (.v (.int .i64 3))), (some 109), none, [], none⟩,
  ⟨.mov (.tmp 109), (some 108), none, [0], none⟩]
def d20r15 : List RO := [
  ⟨.addOff 2 (.tmp 4), (some 110), none, [], none⟩,
  ⟨.load 1 false (.tmp 110), (some 111), none, [0], none⟩,
  ⟨.bin .geq (.tmp 111) (.con (.v (.int .i64 0))), (some 112), none, [1], none⟩,
  ⟨.mov (.tmp 112), (some 113), none, [2], none⟩,
  ⟨.addOff 2 (.tmp 4), (some 114), (some (113, true)), [3], none⟩,
  ⟨.load 1 false (.tmp 114), (some 115), (some (113, true)), [4, 3], none⟩,
  ⟨.addOff 1 (.tmp 1), (some 116), (some (113, true)), [3], none⟩,
  ⟨.load 1 false (.tmp 116), (some 117), (some (113, true)), [6, 3], none⟩,
  ⟨.bin .lss (.tmp 115) (.tmp 117), (some 118), (some (113, true)), [5, 7, 3], none⟩,
  ⟨.pick (.tmp 113) (.tmp 118) (.con (.v (.bool false))), (some 119), none, [3, 8], none⟩,
  ⟨.mov (.tmp 119), (some 120), none, [9, 3], none⟩,
  ⟨.addOff 3 (.tmp 4), (some 121), (some (120, true)), [10], none⟩,
  ⟨.load 1 false (.tmp 121), (some 122), (some (120, true)), [11, 10], none⟩,
  ⟨.bin .eql (.tmp 122) (.con (.v (.int .i64 0))), (some 123), (some (120, true)), [12, 10], none⟩,
  ⟨.pick (.tmp 120) (.tmp 123) (.con (.v (.bool false))), (some 124), none, [10, 13], none⟩,
  ⟨.mov (.tmp 124), (some 5), none, [14, 10, 0, 1, 2, 3, 4, 5, 6, 7, 8, 9, 10, 11, 12, 13, 14], none⟩]
def d20r16 : List RO := [
  ⟨.bin .eql (.tmp 80) (.con (.v (.int .i64 4))), (some 126), none, [], none⟩,
  ⟨.mov (.tmp 126), (some 125), none, [0], none⟩]
def d20r17 : List RO := [
  ⟨.addOff 2 (.tmp 4), (some 127), none, [], none⟩,
  ⟨.load 1 false (.tmp 127), (some 128), none, [0], none⟩,
  ⟨.bin .geq (.tmp 128) (.con (.v (.int .i64 0))), (some 129), none, [1], none⟩,
  ⟨.mov (.tmp 129), (some 130), none, [2], none⟩,
  ⟨.addOff 2 (.tmp 4), (some 131), (some (130, true)), [3], none⟩,
  ⟨.load 1 false (.tmp 131), (some 132), (some (130, true)), [4, 3], none⟩,
  ⟨.addOff 1 (.tmp 1), (some 133), (some (130, true)), [3], none⟩,
  ⟨.load 1 false (.tmp 133), (some 134), (some (130, true)), [6, 3], none⟩,
  ⟨.bin .lss (.tmp 132) (.tmp 134), (some 135), (some (130, true)), [5, 7, 3], none⟩,
  ⟨.pick (.tmp 130) (.tmp 135) (.con (.v (.bool false))), (some 136), none, [3, 8], none⟩,
  ⟨.mov (.tmp 136), (some 137), none, [9, 3], none⟩,
  ⟨.addOff 3 (.tmp 4), (some 138), (some (137, true)), [10], none⟩,
  ⟨.load 1 false (.tmp 138), (some 139), (some (137, true)), [11, 10], none⟩,
  ⟨.bin .geq (.tmp 139) (.con (.v (.int .i64 0))), (some 140), (some (137, true)), [12, 10], none⟩,
  ⟨.pick (.tmp 137) (.tmp 140) (.con (.v (.bool false))), (some 141), none, [10, 13], none⟩,
  ⟨.mov (.tmp 141), (some 142), none, [14, 10], none⟩,
  ⟨.addOff 3 (.tmp 4), (some 143), (some (142, true)), [15], none⟩,
  ⟨.load 1 false (.tmp 143), (some 144), (some (142, true)), [16, 15], none⟩,
  ⟨.addOff 1 (.tmp 1), (some 145), (some (142, true)), [15], none⟩,
  ⟨.load 1 false (.tmp 145), (some 146), (some (142, true)), [18, 15], none⟩,
  ⟨.bin .lss (.tmp 144) (.tmp 146), (some 147), (some (142, true)), [17, 19, 15], none⟩,
  ⟨.pick (.tmp 142) (.tmp 147) (.con (.v (.bool false))), (some 148), none, [15, 20], none⟩,
  ⟨.mov (.tmp 148), (some 5), none, [21, 15, 0, 1, 2, 3, 4, 5, 6, 7, 8, 9, 10, 11, 12, 13, 14, 15, 16, 17, 18, 19, 20, 21], none⟩]
def d20r18 : List RO := [
  ⟨.mov (.tmp 5), (some 149), none, [], none⟩,
  ⟨.un .not (.tmp 149), (some 150), none, [0], none⟩]
def d20r19 : List RO := [
  ⟨.mov (.con (.v (.bool false))), (some 2), none, [], none⟩]
def d20r20 : List RO := [
  ⟨.mov (.tmp 3), (some 47), none, [], none⟩,
  ⟨.bin .add (.tmp 47) (.con (.v (.int .i64 1))), (some 48), none, [0], none⟩,
  ⟨.mov (.tmp 48), (some 3), none, [1, 0, 1], none⟩]
def d20r21 : List RO := [
  ⟨.mov (.con (.v (.bool true))), (some 2), none, [], none⟩]
def d20 : DC := (.seq (.region false d20r0)
  (.seq (.seq (.region false d20r1)
  (.cond (.tmp 41) (.seq (.region false d20r2)
  .ret)
  .skip))
  (.seq (.seq (.region false d20r3)
  (.block 0 (.loop (.seq (.seq (.region false d20r4)
  (.cond (.tmp 46) .skip
  (.exit 0)))
  (.seq (.block 1 (.seq (.region false d20r5)
  (.seq (.seq (.region false d20r6)
  (.cond (.tmp 78) (.seq (.region false d20r7)
  .ret)
  .skip))
  (.seq (.region false d20r8)
  (.seq (.seq (.region false d20r9)
  (.block 2 (.seq (.region false d20r10)
  (.cond (.tmp 81) (.region false d20r11)
  (.seq (.region false d20r12)
  (.cond (.tmp 91) (.region false d20r13)
  (.seq (.region false d20r14)
  (.cond (.tmp 108) (.region false d20r15)
  (.seq (.region false d20r16)
  (.cond (.tmp 125) (.region false d20r17)
  .skip))))))))))
  (.seq (.region false d20r18)
  (.cond (.tmp 150) (.seq (.region false d20r19)
  .ret)
  .skip)))))))
  (.region false d20r20))))))
  (.seq (.region false d20r21)
  .ret))))
def d20res : List DRes := [.slot 2]
theorem c20 [Laid] : CodeOf Tryz.prog 20 151 d20 d20res := ⟨Tryz.f20, by kernel_rfl, by kernel_rfl, by kernel_rfl, by kernel_rfl, by kernel_rfl⟩

end Inc
end Go.Proofs
set_option maxRecDepth 100000

namespace Go.Proofs
namespace Inc
open Go.DM

-- emendate/emendateref40.none
def d42r0 : List RO := [
  ⟨.alloc [(.v (.int .i64 0)), (.v (.int .i64 0)), (.v (.int .i64 0)), (.v (.int .i64 0))], (some 0), none, [], none⟩]
def d42r1 : List RO := [
  ⟨.build [(.v (.int .i64 0)), (.v (.int .i64 0))] [(0, 1, (.con (.v (.int .i64 1099511627776))))], (some 1), none, [], none⟩,
  ⟨.build [(.v (.int .i64 0)), (.v (.int .i64 0)), (.v (.int .i64 0)), (.v (.int .i64 0))] [(0, 2, (.tmp 1)), (2, 1, (.con (.v (.int .i64 (-1)))))], (some 2), none, [0], none⟩,
  ⟨.store 4 (.tmp 0) (.tmp 2), none, none, [1, 0, 1], none⟩]
def d42 : DC := (.seq (.region false d42r0)
  (.seq (.region false d42r1)
  .ret))
def d42res : List DRes := [.cell 0 4 true]
theorem c42 [Laid] : CodeOf Tryz.prog 42 3 d42 d42res := ⟨Tryz.f42, by kernel_rfl, by kernel_rfl, by kernel_rfl, by kernel_rfl, by kernel_rfl⟩
-- emendate/emendateref40.Count
def d23r0 : List RO := [
  ⟨.mov (.con (.v (.int .i64 0))), (some 4), none, [], none⟩]
def d23r1 : List RO := [
  ⟨.mov (.tmp 0), (some 5), none, [], none⟩,
  ⟨.mov (.tmp 1), (some 6), none, [], none⟩,
  ⟨.bin .mul (.tmp 5) (.tmp 6), (some 7), none, [0, 1], none⟩,
  ⟨.mov (.tmp 1), (some 8), none, [], none⟩,
  ⟨.bin .add (.tmp 8) (.con (.v (.int .i64 1))), (some 9), none, [3], none⟩,
  ⟨.bin .mul (.tmp 7) (.tmp 9), (some 10), none, [2, 4], none⟩,
  ⟨.bin .quo (.tmp 10) (.con (.v (.int .i64 2))), (some 11), none, [5], none⟩,
  ⟨.mov (.tmp 11), (some 4), none, [6, 0, 1, 2, 3, 4, 5, 6], none⟩]
def d23 : DC := (.seq (.region false d23r0)
  (.seq (.region false d23r1)
  .ret))
def d23res : List DRes := [.slot 4]
theorem c23 [Laid] : CodeOf Tryz.prog 23 12 d23 d23res := ⟨Tryz.f23, by kernel_rfl, by kernel_rfl, by kernel_rfl, by kernel_rfl, by kernel_rfl⟩
-- emendate/emendateref40.Index
def d25r0 : List RO := [
  ⟨.mov (.con (.v (.int .i64 0))), (some 8), none, [], none⟩]
def d25r1 : List RO := [
  ⟨.mov (.con (.v (.int .i64 0))), (some 9), none, [], none⟩]
def d25r2 : List RO := [
  ⟨.mov (.con (.v (.int .i64 0))), (some 10), none, [], none⟩]
def d25r3 : List RO := [
  ⟨.mov (.tmp 10), (some 11), none, [], none⟩,
  ⟨.mov (.tmp 2), (some 12), none, [], none⟩,
  ⟨.bin .lss (.tmp 11) (.tmp 12), (some 13), none, [0, 1], none⟩]
def d25r4 : List RO := [
  ⟨.mov (.tmp 9), (some 16), none, [], none⟩,
  ⟨.mov (.tmp 1), (some 17), none, [], none⟩,
  ⟨.bin .add (.tmp 16) (.tmp 17), (some 18), none, [0, 1], none⟩,
  ⟨.mov (.tmp 10), (some 19), none, [], none⟩,
  ⟨.bin .sub (.tmp 18) (.tmp 19), (some 20), none, [2, 3], none⟩,
  ⟨.mov (.tmp 20), (some 9), none, [4, 0, 1, 2, 3, 4], none⟩]
def d25r5 : List RO := [
  ⟨.mov (.tmp 10), (some 14), none, [], none⟩,
  ⟨.bin .add (.tmp 14) (.con (.v (.int .i64 1))), (some 15), none, [0], none⟩,
  ⟨.mov (.tmp 15), (some 10), none, [1, 0, 1], none⟩]
def d25r6 : List RO := [
  ⟨.mov (.tmp 9), (some 21), none, [], none⟩,
  ⟨.mov (.tmp 3), (some 22), none, [], none⟩,
  ⟨.bin .add (.tmp 21) (.tmp 22), (some 23), none, [0, 1], none⟩,
  ⟨.mov (.tmp 2), (some 24), none, [], none⟩,
  ⟨.bin .sub (.tmp 23) (.tmp 24), (some 25), none, [2, 3], none⟩,
  ⟨.mov (.tmp 0), (some 26), none, [], none⟩,
  ⟨.bin .mul (.tmp 25) (.tmp 26), (some 27), none, [4, 5], none⟩,
  ⟨.mov (.tmp 27), (some 8), none, [6, 0, 1, 2, 3, 4, 5, 6], none⟩]
def d25 : DC := (.seq (.region false d25r0)
  (.seq (.region false d25r1)
  (.seq (.seq (.region false d25r2)
  (.block 0 (.loop (.seq (.seq (.region false d25r3)
  (.cond (.tmp 13) .skip
  (.exit 0)))
  (.seq (.block 1 (.region false d25r4))
  (.region false d25r5))))))
  (.seq (.region false d25r6)
  .ret))))
def d25res : List DRes := [.slot 8]
theorem c25 [Laid] : CodeOf Tryz.prog 25 28 d25 d25res := ⟨Tryz.f25, by kernel_rfl, by kernel_rfl, by kernel_rfl, by kernel_rfl, by kernel_rfl⟩
-- emendate/emendateref40.better
def d68r0 : List RO := [
  ⟨.box (.tmp 0), (some 4), none, [], none⟩,
  ⟨.box (.tmp 1), (some 5), none, [], none⟩,
  ⟨.alloc [(.v (.int .i64 0)), (.v (.int .i64 0)), (.v (.int .i64 0)), (.v (.int .i64 0))], (some 8), none, [], none⟩]
def d68r1 : List RO := [
  ⟨.addOff 0 (.tmp 5), (some 11), none, [], none⟩,
  ⟨.load 1 false (.tmp 11), (some 12), none, [0], none⟩,
  ⟨.bin .geq (.tmp 12) (.con (.v (.int .i64 1099511627776))), (some 13), none, [1], none⟩]
def d68r2 : List RO := [
  ⟨.load 4 true (.tmp 4), (some 14), none, [], none⟩,
  ⟨.store 4 (.tmp 8) (.tmp 14), none, none, [0, 0], none⟩]
def d68r3 : List RO := [
  ⟨.load 2 true (.tmp 5), (some 15), none, [], none⟩,
  ⟨.addOff 0 (.tmp 4), (some 16), none, [], none⟩,
  ⟨.load 2 true (.tmp 16), (some 17), none, [1], none⟩,
  ⟨.call 92 [(.tmp 15), (.tmp 17)], (some 18), none, [0, 2], none⟩,
  ⟨.mov (.tmp 18), (some 9), none, [3, 3, 0, 1, 2, 3], none⟩]
def d68r4 : List RO := [
  ⟨.load 2 true (.tmp 5), (some 19), none, [], none⟩,
  ⟨.addOff 0 (.tmp 4), (some 20), none, [], none⟩,
  ⟨.load 2 true (.tmp 20), (some 21), none, [1], none⟩,
  ⟨.eqT false true [(.int .i64), (.int .i64)] (.tmp 19) (.tmp 21), (some 22), none, [0, 2], none⟩,
  ⟨.mov (.tmp 22), (some 23), none, [3], none⟩,
  ⟨.mov (.tmp 2), (some 24), (some (23, true)), [4], none⟩,
  ⟨.addOff 2 (.tmp 4), (some 25), (some (23, true)), [4], none⟩,
  ⟨.load 1 false (.tmp 25), (some 26), (some (23, true)), [6, 4], none⟩,
  ⟨.bin .lss (.tmp 24) (.tmp 26), (some 27), (some (23, true)), [5, 7, 4], none⟩,
  ⟨.mov (.tmp 27), (some 28), (some (23, true)), [8, 4, 4], none⟩,
  ⟨.mov (.tmp 2), (some 29), (some (28, false)), [9], none⟩,
  ⟨.addOff 2 (.tmp 4), (some 30), (some (28, false)), [9], none⟩,
  ⟨.load 1 false (.tmp 30), (some 31), (some (28, false)), [11, 9], none⟩,
  ⟨.bin .eql (.tmp 29) (.tmp 31), (some 32), (some (28, false)), [10, 12, 9], none⟩,
  ⟨.mov (.tmp 32), (some 33), (some (28, false)), [13, 9, 9], none⟩,
  ⟨.mov (.tmp 3), (some 34), (some (33, true)), [14], none⟩,
  ⟨.addOff 3 (.tmp 4), (some 35), (some (33, true)), [14], none⟩,
  ⟨.load 1 false (.tmp 35), (some 36), (some (33, true)), [16, 14], none⟩,
  ⟨.bin .lss (.tmp 34) (.tmp 36), (some 37), (some (33, true)), [15, 17, 14], none⟩,
  ⟨.pick (.tmp 33) (.tmp 37) (.con (.v (.bool false))), (some 38), (some (28, false)), [14, 18, 9], none⟩,
  ⟨.pick (.tmp 28) (.con (.v (.bool true))) (.tmp 38), (some 39), (some (23, true)), [9, 19, 4], none⟩,
  ⟨.pick (.tmp 23) (.tmp 39) (.con (.v (.bool false))), (some 40), none, [4, 20], none⟩,
  ⟨.mov (.tmp 40), (some 10), none, [21, 14, 0, 1, 2, 3, 4, 5, 6, 7, 8, 9, 10, 11, 12, 13, 14, 15, 16, 17, 18, 19, 20, 21], none⟩]
def d68r5 : List RO := [
  ⟨.mov (.tmp 9), (some 41), none, [], none⟩,
  ⟨.mov (.tmp 41), (some 42), none, [0], none⟩,
  ⟨.mov (.tmp 10), (some 43), (some (42, false)), [1], none⟩,
  ⟨.pick (.tmp 42) (.con (.v (.bool true))) (.tmp 43), (some 44), none, [1, 2], none⟩]
def d68r6 : List RO := [
  ⟨.load 2 true (.tmp 5), (some 45), none, [], none⟩,
  ⟨.mov (.tmp 2), (some 46), none, [], none⟩,
  ⟨.mov (.tmp 3), (some 47), none, [], none⟩,
  ⟨.build [(.v (.int .i64 0)), (.v (.int .i64 0)), (.v (.int .i64 0)), (.v (.int .i64 0))] [(0, 2, (.tmp 45)), (2, 1, (.tmp 46)), (3, 1, (.tmp 47))], (some 48), none, [0, 1, 2], none⟩,
  ⟨.store 4 (.tmp 8) (.tmp 48), none, none, [3, 0, 1, 2, 3], none⟩]
def d68r7 : List RO := [
  ⟨.load 4 true (.tmp 4), (some 49), none, [], none⟩,
  ⟨.store 4 (.tmp 8) (.tmp 49), none, none, [0, 0], none⟩]
def d68 : DC := (.seq (.region false d68r0)
  (.seq (.seq (.region false d68r1)
  (.cond (.tmp 13) (.seq (.region false d68r2)
  .ret)
  .skip))
  (.seq (.region false d68r3)
  (.seq (.region false d68r4)
  (.seq (.seq (.region false d68r5)
  (.cond (.tmp 44) (.seq (.region false d68r6)
  .ret)
  .skip))
  (.seq (.region false d68r7)
  .ret))))))
def d68res : List DRes := [.cell 8 4 true]
theorem c68 [Laid] : CodeOf Tryz.prog 68 50 d68 d68res := ⟨Tryz.f68, by kernel_rfl, by kernel_rfl, by kernel_rfl, by kernel_rfl, by kernel_rfl⟩
-- emendate/emendateref40.At
def d19r0 : List RO := [
  ⟨.box (.tmp 0), (some 2), none, [], none⟩,
  ⟨.box (.tmp 1), (some 3), none, [], none⟩,
  ⟨.alloc [(.v (.int .i64 0)), (.v (.int .i64 0)), (.v (.int .i64 0)), (.v (.int .i64 0))], (some 4), none, [], none⟩]
def d19r1 : List RO := [
  ⟨.addOff 0 (.tmp 3), (some 6), none, [], none⟩,
  ⟨.load 1 false (.tmp 6), (some 7), none, [0], none⟩,
  ⟨.bin .lss (.tmp 7) (.con (.v (.int .i64 0))), (some 8), none, [1], none⟩,
  ⟨.mov (.tmp 8), (some 9), none, [2], none⟩,
  ⟨.addOff 0 (.tmp 3), (some 10), (some (9, false)), [3], none⟩,
  ⟨.load 1 false (.tmp 10), (some 11), (some (9, false)), [4, 3], none⟩,
  ⟨.addOff 0 (.tmp 2), (some 12), (some (9, false)), [3], none⟩,
  ⟨.load 1 false (.tmp 12), (some 13), (some (9, false)), [6, 3], none⟩,
  ⟨.bin .geq (.tmp 11) (.tmp 13), (some 14), (some (9, false)), [5, 7, 3], none⟩,
  ⟨.pick (.tmp 9) (.con (.v (.bool true))) (.tmp 14), (some 15), none, [3, 8], none⟩,
  ⟨.mov (.tmp 15), (some 16), none, [9, 3], none⟩,
  ⟨.addOff 1 (.tmp 3), (some 17), (some (16, false)), [10], none⟩,
  ⟨.load 1 false (.tmp 17), (some 18), (some (16, false)), [11, 10], none⟩,
  ⟨.bin .lss (.tmp 18) (.con (.v (.int .i64 0))), (some 19), (some (16, false)), [12, 10], none⟩,
  ⟨.pick (.tmp 16) (.con (.v (.bool true))) (.tmp 19), (some 20), none, [10, 13], none⟩,
  ⟨.mov (.tmp 20), (some 21), none, [14, 10], none⟩,
  ⟨.addOff 2 (.tmp 3), (some 22), (some (21, false)), [15], none⟩,
  ⟨.load 1 false (.tmp 22), (some 23), (some (21, false)), [16, 15], none⟩,
  ⟨.addOff 1 (.tmp 3), (some 24), (some (21, false)), [15], none⟩,
  ⟨.load 1 false (.tmp 24), (some 25), (some (21, false)), [18, 15], none⟩,
  ⟨.bin .lss (.tmp 23) (.tmp 25), (some 26), (some (21, false)), [17, 19, 15], none⟩,
  ⟨.pick (.tmp 21) (.con (.v (.bool true))) (.tmp 26), (some 27), none, [15, 20], none⟩,
  ⟨.mov (.tmp 27), (some 28), none, [21, 15], none⟩,
  ⟨.addOff 2 (.tmp 3), (some 29), (some (28, false)), [22], none⟩,
  ⟨.load 1 false (.tmp 29), (some 30), (some (28, false)), [23, 22], none⟩,
  ⟨.addOff 1 (.tmp 2), (some 31), (some (28, false)), [22], none⟩,
  ⟨.load 1 false (.tmp 31), (some 32), (some (28, false)), [25, 22], none⟩,
  ⟨.bin .geq (.tmp 30) (.tmp 32), (some 33), (some (28, false)), [24, 26, 22], none⟩,
  ⟨.pick (.tmp 28) (.con (.v (.bool true))) (.tmp 33), (some 34), none, [22, 27], none⟩]
def d19r2 : List RO := [
  ⟨.call 42 [], (some 35), none, [], none⟩,
  ⟨.store 4 (.tmp 4) (.tmp 35), none, none, [0, 0, 0], none⟩]
def d19r3 : List RO := [
  ⟨.addOff 0 (.tmp 2), (some 36), none, [], none⟩,
  ⟨.load 1 false (.tmp 36), (some 37), none, [0], none⟩,
  ⟨.addOff 1 (.tmp 2), (some 38), none, [], none⟩,
  ⟨.load 1 false (.tmp 38), (some 39), none, [2], none⟩,
  ⟨.addOff 1 (.tmp 3), (some 40), none, [], none⟩,
  ⟨.load 1 false (.tmp 40), (some 41), none, [4], none⟩,
  ⟨.addOff 2 (.tmp 3), (some 42), none, [], none⟩,
  ⟨.load 1 false (.tmp 42), (some 43), none, [6], none⟩,
  ⟨.call 25 [(.tmp 37), (.tmp 39), (.tmp 41), (.tmp 43)], (some 44), none, [1, 3, 5, 7], none⟩,
  ⟨.addOff 0 (.tmp 3), (some 45), none, [], none⟩,
  ⟨.load 1 false (.tmp 45), (some 46), none, [9], none⟩,
  ⟨.bin .add (.tmp 44) (.tmp 46), (some 47), none, [8, 10], none⟩,
  ⟨.mov (.tmp 47), (some 5), none, [11, 8, 0, 1, 2, 3, 4, 5, 6, 7, 8, 9, 10, 11], none⟩]
def d19r4 : List RO := [
  ⟨.mov (.tmp 5), (some 48), none, [], none⟩,
  ⟨.addOff 2 (.tmp 2), (some 49), none, [], none⟩,
  ⟨.load 1 false (.tmp 49), (some 50), none, [1], none⟩,
  ⟨.len (.tmp 50), (some 51), none, [2], none⟩,
  ⟨.bin .geq (.tmp 48) (.tmp 51), (some 52), none, [0, 3], none⟩]
def d19r5 : List RO := [
  ⟨.call 42 [], (some 53), none, [], none⟩,
  ⟨.store 4 (.tmp 4) (.tmp 53), none, none, [0, 0, 0], none⟩]
def d19r6 : List RO := [
  ⟨.addOff 2 (.tmp 2), (some 54), none, [], none⟩,
  ⟨.load 1 false (.tmp 54), (some 55), none, [0], none⟩,
  ⟨.mov (.tmp 5), (some 56), none, [], none⟩,
  ⟨.idxAddr 4 (.tmp 55) (.tmp 56), (some 57), none, [1, 2], none⟩,
  ⟨.load 4 true (.tmp 57), (some 58), none, [3], none⟩,
  ⟨.store 4 (.tmp 4) (.tmp 58), none, none, [4, 0, 1, 2, 3, 4], none⟩]
def d19 : DC := (.seq (.region false d19r0)
  (.seq (.seq (.region false d19r1)
  (.cond (.tmp 34) (.seq (.region false d19r2)
  .ret)
  .skip))
  (.seq (.region true d19r3)
  (.seq (.seq (.region false d19r4)
  (.cond (.tmp 52) (.seq (.region false d19r5)
  .ret)
  .skip))
  (.seq (.region false d19r6)
  .ret)))))
def d19res : List DRes := [.cell 4 4 true]
theorem c19 [Laid] : CodeOf Tryz.prog 19 59 d19 d19res := ⟨Tryz.f19, by kernel_rfl, by kernel_rfl, by kernel_rfl, by kernel_rfl, by kernel_rfl⟩
-- emendate/emendateref40.value
def d70r0 : List RO := [
  ⟨.box (.tmp 0), (some 5), none, [], none⟩,
  ⟨.box (.tmp 4), (some 9), none, [], none⟩,
  ⟨.alloc [(.v (.int .i64 0)), (.v (.int .i64 0))], (some 10), none, [], none⟩]
def d70r1 : List RO := [
  ⟨.addOff 1 (.tmp 9), (some 11), none, [], none⟩,
  ⟨.load 1 false (.tmp 11), (some 12), none, [0], none⟩,
  ⟨.mov (.tmp 2), (some 13), none, [], none⟩,
  ⟨.bin .eql (.tmp 12) (.tmp 13), (some 14), none, [1, 2], none⟩,
  ⟨.mov (.tmp 14), (some 15), none, [3], none⟩,
  ⟨.addOff 2 (.tmp 9), (some 16), (some (15, true)), [4], none⟩,
  ⟨.load 1 false (.tmp 16), (some 17), (some (15, true)), [5, 4], none⟩,
  ⟨.mov (.tmp 3), (some 18), (some (15, true)), [4], none⟩,
  ⟨.bin .eql (.tmp 17) (.tmp 18), (some 19), (some (15, true)), [6, 7, 4], none⟩,
  ⟨.pick (.tmp 15) (.tmp 19) (.con (.v (.bool false))), (some 20), none, [4, 8], none⟩]
def d70r2 : List RO := [
  ⟨.mov (.tmp 1), (some 21), none, [], none⟩,
  ⟨.addOff 0 (.tmp 9), (some 22), none, [], none⟩,
  ⟨.load 1 false (.tmp 22), (some 23), none, [1], none⟩,
  ⟨.idxAddr 4 (.tmp 21) (.tmp 23), (some 24), none, [0, 2], none⟩,
  ⟨.addOff 0 (.tmp 24), (some 25), none, [3], none⟩,
  ⟨.load 2 true (.tmp 25), (some 26), none, [4], none⟩,
  ⟨.store 2 (.tmp 10) (.tmp 26), none, none, [5, 0, 1, 2, 3, 4, 5], none⟩]
def d70r3 : List RO := [
  ⟨.load 3 true (.tmp 5), (some 27), none, [], none⟩,
  ⟨.load 3 true (.tmp 9), (some 28), none, [], none⟩,
  ⟨.call 19 [(.tmp 27), (.tmp 28)], (some 29), none, [0, 1], none⟩,
  ⟨.field 0 2 true (.tmp 29), (some 30), none, [2], none⟩,
  ⟨.store 2 (.tmp 10) (.tmp 30), none, none, [3, 2, 0, 1, 2, 3], none⟩]
def d70 : DC := (.seq (.region false d70r0)
  (.seq (.seq (.region false d70r1)
  (.cond (.tmp 20) (.seq (.region false d70r2)
  .ret)
  .skip))
  (.seq (.region false d70r3)
  .ret)))
def d70res : List DRes := [.cell 10 2 true]
theorem c70 [Laid] : CodeOf Tryz.prog 70 31 d70 d70res := ⟨Tryz.f70, by kernel_rfl, by kernel_rfl, by kernel_rfl, by kernel_rfl, by kernel_rfl⟩
-- emendate/emendateref40.improve
def d46r0 : List RO := [
  ⟨.box (.tmp 0), (some 7), none, [], none⟩,
  ⟨.box (.tmp 1), (some 8), none, [], none⟩,
  ⟨.box (.tmp 2), (some 9), none, [], none⟩,
  ⟨.alloc [(.v (.int .i64 0)), (.v (.int .i64 0)), (.v (.int .i64 0)), (.v (.int .i64 0))], (some 14), none, [], none⟩]
def d46r1 : List RO := [
  ⟨.addOff 3 (.tmp 7), (some 22), none, [], none⟩,
  ⟨.load 1 false (.tmp 22), (some 23), none, [0], none⟩,
  ⟨.mov (.tmp 6), (some 24), none, [], none⟩,
  ⟨.idxAddr 6 (.tmp 23) (.tmp 24), (some 25), none, [1, 2], none⟩,
  ⟨.load 6 true (.tmp 25), (some 26), none, [3], none⟩,
  ⟨.alloc [(.v (.int .i64 0)), (.v (.int .i64 0)), (.v (.int .i64 0)), (.v (.int .i64 0)), (.v (.int .i64 0)), (.v (.int .i64 0))], (some 15), none, [], none⟩,
  ⟨.store 6 (.tmp 15) (.tmp 26), none, none, [5, 4, 0, 1, 2, 3, 4, 5], none⟩]
def d46r2 : List RO := [
  ⟨.mov (.tmp 3), (some 27), none, [], none⟩,
  ⟨.addOff 1 (.tmp 15), (some 28), none, [], none⟩,
  ⟨.load 1 false (.tmp 28), (some 29), none, [1], none⟩,
  ⟨.idxAddr 4 (.tmp 27) (.tmp 29), (some 30), none, [0, 2], none⟩,
  ⟨.load 4 true (.tmp 30), (some 31), none, [3], none⟩,
  ⟨.alloc [(.v (.int .i64 0)), (.v (.int .i64 0)), (.v (.int .i64 0)), (.v (.int .i64 0))], (some 16), none, [], none⟩,
  ⟨.store 4 (.tmp 16) (.tmp 31), none, none, [5, 4, 0, 1, 2, 3, 4, 5], none⟩]
def d46r3 : List RO := [
  ⟨.addOff 0 (.tmp 15), (some 32), none, [], none⟩,
  ⟨.load 1 false (.tmp 32), (some 33), none, [0], none⟩]
def d46r4 : List RO := [
  ⟨.bin .eql (.tmp 33) (.con (.v (.int .i64 1))), (some 71), none, [], none⟩,
  ⟨.mov (.tmp 71), (some 70), none, [0], none⟩]
def d46r5 : List RO := [
  ⟨.mov (.tmp 4), (some 72), none, [], none⟩,
  ⟨.mov (.tmp 5), (some 73), none, [], none⟩,
  ⟨.bin .eql (.tmp 72) (.tmp 73), (some 74), none, [0, 1], none⟩]
def d46r6 : List RO := [
  ⟨.load 4 true (.tmp 16), (some 75), none, [], none⟩,
  ⟨.addOff 4 (.tmp 15), (some 76), none, [], none⟩,
  ⟨.load 1 false (.tmp 76), (some 77), none, [1], none⟩,
  ⟨.call 69 [(.tmp 77), (.con .nil0)], (some 78), none, [2], none⟩,
  ⟨.mov (.tmp 6), (some 79), none, [], none⟩,
  ⟨.mov (.tmp 4), (some 80), none, [], none⟩,
  ⟨.call 68 [(.tmp 75), (.tmp 78), (.tmp 79), (.tmp 80)], (some 81), none, [0, 3, 4, 5, 3], none⟩,
  ⟨.store 4 (.tmp 16) (.tmp 81), none, none, [6, 6, 0, 1, 2, 3, 4, 5, 6], none⟩]
def d46r7 : List RO := [
  ⟨.bin .eql (.tmp 33) (.con (.v (.int .i64 2))), (some 83), none, [], none⟩,
  ⟨.mov (.tmp 83), (some 82), none, [0], none⟩]
def d46r8 : List RO := [
  ⟨.mov (.con (.v (.int .i64 0))), (some 17), none, [], none⟩]
def d46r9 : List RO := [
  ⟨.mov (.tmp 17), (some 84), none, [], none⟩,
  ⟨.addOff 1 (.tmp 8), (some 85), none, [], none⟩,
  ⟨.load 1 false (.tmp 85), (some 86), none, [1], none⟩,
  ⟨.len (.tmp 86), (some 87), none, [2], none⟩,
  ⟨.bin .lss (.tmp 84) (.tmp 87), (some 88), none, [0, 3], none⟩]
def d46r10 : List RO := [
  ⟨.addOff 1 (.tmp 8), (some 91), none, [], none⟩,
  ⟨.load 1 false (.tmp 91), (some 92), none, [0], none⟩,
  ⟨.mov (.tmp 17), (some 93), none, [], none⟩,
  ⟨.idxAddr 5 (.tmp 92) (.tmp 93), (some 94), none, [1, 2], none⟩,
  ⟨.addOff 0 (.tmp 94), (some 95), none, [3], none⟩,
  ⟨.load 1 false (.tmp 95), (some 96), none, [4], none⟩,
  ⟨.mov (.tmp 4), (some 97), none, [], none⟩,
  ⟨.bin .eql (.tmp 96) (.tmp 97), (some 98), none, [5, 6], none⟩,
  ⟨.mov (.tmp 98), (some 99), none, [7], none⟩,
  ⟨.addOff 1 (.tmp 8), (some 100), (some (99, true)), [8], none⟩,
  ⟨.load 1 false (.tmp 100), (some 101), (some (99, true)), [9, 8], none⟩,
  ⟨.mov (.tmp 17), (some 102), (some (99, true)), [8], none⟩,
  ⟨.idxAddr 5 (.tmp 101) (.tmp 102), (some 103), (some (99, true)), [10, 11, 8], none⟩,
  ⟨.addOff 1 (.tmp 103), (some 104), (some (99, true)), [12, 8], none⟩,
  ⟨.load 1 false (.tmp 104), (some 105), (some (99, true)), [13, 8], none⟩,
  ⟨.mov (.tmp 5), (some 106), (some (99, true)), [8], none⟩,
  ⟨.bin .eql (.tmp 105) (.tmp 106), (some 107), (some (99, true)), [14, 15, 8], none⟩,
  ⟨.pick (.tmp 99) (.tmp 107) (.con (.v (.bool false))), (some 108), none, [8, 16], none⟩,
  ⟨.mov (.tmp 108), (some 109), none, [17, 8], none⟩,
  ⟨.addOff 1 (.tmp 8), (some 110), (some (109, true)), [18], none⟩,
  ⟨.load 1 false (.tmp 110), (some 111), (some (109, true)), [19, 18], none⟩,
  ⟨.mov (.tmp 17), (some 112), (some (109, true)), [18], none⟩,
  ⟨.idxAddr 5 (.tmp 111) (.tmp 112), (some 113), (some (109, true)), [20, 21, 18], none⟩,
  ⟨.addOff 2 (.tmp 113), (some 114), (some (109, true)), [22, 18], none⟩,
  ⟨.load 1 false (.tmp 114), (some 115), (some (109, true)), [23, 18], none⟩,
  ⟨.addOff 2 (.tmp 15), (some 116), (some (109, true)), [18], none⟩,
  ⟨.load 1 false (.tmp 116), (some 117), (some (109, true)), [25, 18], none⟩,
  ⟨.bin .eql (.tmp 115) (.tmp 117), (some 118), (some (109, true)), [24, 26, 18], none⟩,
  ⟨.pick (.tmp 109) (.tmp 118) (.con (.v (.bool false))), (some 119), none, [18, 27], none⟩]
def d46r11 : List RO := [
  ⟨.load 4 true (.tmp 16), (some 120), none, [], none⟩,
  ⟨.addOff 4 (.tmp 15), (some 121), none, [], none⟩,
  ⟨.load 1 false (.tmp 121), (some 122), none, [1], none⟩,
  ⟨.addOff 1 (.tmp 8), (some 123), none, [], none⟩,
  ⟨.load 1 false (.tmp 123), (some 124), none, [3], none⟩,
  ⟨.mov (.tmp 17), (some 125), none, [], none⟩,
  ⟨.idxAddr 5 (.tmp 124) (.tmp 125), (some 126), none, [4, 5], none⟩,
  ⟨.addOff 3 (.tmp 126), (some 127), none, [6], none⟩,
  ⟨.load 1 false (.tmp 127), (some 128), none, [7], none⟩,
  ⟨.bin .add (.tmp 122) (.tmp 128), (some 129), none, [2, 8], none⟩,
  ⟨.call 69 [(.tmp 129), (.con .nil0)], (some 130), none, [9], none⟩,
  ⟨.mov (.tmp 6), (some 131), none, [], none⟩,
  ⟨.mov (.tmp 17), (some 132), none, [], none⟩,
  ⟨.call 68 [(.tmp 120), (.tmp 130), (.tmp 131), (.tmp 132)], (some 133), none, [0, 10, 11, 12, 10], none⟩,
  ⟨.store 4 (.tmp 16) (.tmp 133), none, none, [13, 13, 0, 1, 2, 3, 4, 5, 6, 7, 8, 9, 10, 11, 12, 13], none⟩]
def d46r12 : List RO := [
  ⟨.mov (.tmp 17), (some 89), none, [], none⟩,
  ⟨.bin .add (.tmp 89) (.con (.v (.int .i64 1))), (some 90), none, [0], none⟩,
  ⟨.mov (.tmp 90), (some 17), none, [1, 0, 1], none⟩]
def d46r13 : List RO := [
  ⟨.bin .eql (.tmp 33) (.con (.v (.int .i64 3))), (some 135), none, [], none⟩,
  ⟨.mov (.tmp 135), (some 134), none, [0], none⟩]
def d46r14 : List RO := [
  ⟨.load 3 true (.tmp 9), (some 136), none, [], none⟩,
  ⟨.mov (.tmp 3), (some 137), none, [], none⟩,
  ⟨.mov (.tmp 4), (some 138), none, [], none⟩,
  ⟨.mov (.tmp 5), (some 139), none, [], none⟩,
  ⟨.addOff 2 (.tmp 15), (some 140), none, [], none⟩,
  ⟨.load 1 false (.tmp 140), (some 141), none, [4], none⟩,
  ⟨.mov (.tmp 4), (some 142), none, [], none⟩,
  ⟨.mov (.tmp 5), (some 143), none, [], none⟩,
  ⟨.build [(.v (.int .i64 0)), (.v (.int .i64 0)), (.v (.int .i64 0))] [(0, 1, (.tmp 141)), (1, 1, (.tmp 142)), (2, 1, (.tmp 143))], (some 144), none, [5, 6, 7], none⟩,
  ⟨.call 70 [(.tmp 136), (.tmp 137), (.tmp 138), (.tmp 139), (.tmp 144)], (some 145), none, [0, 1, 2, 3, 8], none⟩,
  ⟨.alloc [(.v (.int .i64 0)), (.v (.int .i64 0))], (some 18), none, [], none⟩,
  ⟨.store 2 (.tmp 18) (.tmp 145), none, none, [10, 9, 9, 0, 1, 2, 3, 4, 5, 6, 7, 8, 9, 10], none⟩]
def d46r15 : List RO := [
  ⟨.load 4 true (.tmp 16), (some 146), none, [], none⟩,
  ⟨.addOff 4 (.tmp 15), (some 147), none, [], none⟩,
  ⟨.load 1 false (.tmp 147), (some 148), none, [1], none⟩,
  ⟨.load 2 true (.tmp 18), (some 149), none, [], none⟩,
  ⟨.bslice 1 2 [(.v (.int .i64 0)), (.v (.int .i64 0))] [(0, 2, (.tmp 149))], (some 150), none, [3], none⟩,
  ⟨.call 69 [(.tmp 148), (.tmp 150)], (some 151), none, [2, 4], none⟩,
  ⟨.mov (.tmp 6), (some 152), none, [], none⟩,
  ⟨.mov (.tmp 4), (some 153), none, [], none⟩,
  ⟨.call 68 [(.tmp 146), (.tmp 151), (.tmp 152), (.tmp 153)], (some 154), none, [0, 5, 6, 7, 5], none⟩,
  ⟨.store 4 (.tmp 16) (.tmp 154), none, none, [8, 8, 0, 1, 2, 3, 4, 5, 6, 7, 8], none⟩]
def d46r16 : List RO := [
  ⟨.mov (.tmp 4), (some 34), none, [], none⟩,
  ⟨.mov (.tmp 34), (some 19), none, [0, 0], none⟩]
def d46r17 : List RO := [
  ⟨.mov (.tmp 19), (some 35), none, [], none⟩,
  ⟨.mov (.tmp 5), (some 36), none, [], none⟩,
  ⟨.bin .leq (.tmp 35) (.tmp 36), (some 37), none, [0, 1], none⟩]
def d46r18 : List RO := [
  ⟨.load 3 true (.tmp 9), (some 40), none, [], none⟩,
  ⟨.mov (.tmp 3), (some 41), none, [], none⟩,
  ⟨.mov (.tmp 4), (some 42), none, [], none⟩,
  ⟨.mov (.tmp 5), (some 43), none, [], none⟩,
  ⟨.addOff 2 (.tmp 15), (some 44), none, [], none⟩,
  ⟨.load 1 false (.tmp 44), (some 45), none, [4], none⟩,
  ⟨.mov (.tmp 4), (some 46), none, [], none⟩,
  ⟨.mov (.tmp 19), (some 47), none, [], none⟩,
  ⟨.build [(.v (.int .i64 0)), (.v (.int .i64 0)), (.v (.int .i64 0))] [(0, 1, (.tmp 45)), (1, 1, (.tmp 46)), (2, 1, (.tmp 47))], (some 48), none, [5, 6, 7], none⟩,
  ⟨.call 70 [(.tmp 40), (.tmp 41), (.tmp 42), (.tmp 43), (.tmp 48)], (some 49), none, [0, 1, 2, 3, 8], none⟩,
  ⟨.alloc [(.v (.int .i64 0)), (.v (.int .i64 0))], (some 20), none, [], none⟩,
  ⟨.store 2 (.tmp 20) (.tmp 49), none, none, [10, 9, 9, 0, 1, 2, 3, 4, 5, 6, 7, 8, 9, 10], none⟩]
def d46r19 : List RO := [
  ⟨.load 3 true (.tmp 9), (some 50), none, [], none⟩,
  ⟨.mov (.tmp 3), (some 51), none, [], none⟩,
  ⟨.mov (.tmp 4), (some 52), none, [], none⟩,
  ⟨.mov (.tmp 5), (some 53), none, [], none⟩,
  ⟨.addOff 3 (.tmp 15), (some 54), none, [], none⟩,
  ⟨.load 1 false (.tmp 54), (some 55), none, [4], none⟩,
  ⟨.mov (.tmp 19), (some 56), none, [], none⟩,
  ⟨.mov (.tmp 5), (some 57), none, [], none⟩,
  ⟨.build [(.v (.int .i64 0)), (.v (.int .i64 0)), (.v (.int .i64 0))] [(0, 1, (.tmp 55)), (1, 1, (.tmp 56)), (2, 1, (.tmp 57))], (some 58), none, [5, 6, 7], none⟩,
  ⟨.call 70 [(.tmp 50), (.tmp 51), (.tmp 52), (.tmp 53), (.tmp 58)], (some 59), none, [0, 1, 2, 3, 8], none⟩,
  ⟨.alloc [(.v (.int .i64 0)), (.v (.int .i64 0))], (some 21), none, [], none⟩,
  ⟨.store 2 (.tmp 21) (.tmp 59), none, none, [10, 9, 9, 0, 1, 2, 3, 4, 5, 6, 7, 8, 9, 10], none⟩]
def d46r20 : List RO := [
  ⟨.load 4 true (.tmp 16), (some 60), none, [], none⟩,
  ⟨.addOff 4 (.tmp 15), (some 61), none, [], none⟩,
  ⟨.load 1 false (.tmp 61), (some 62), none, [1], none⟩,
  ⟨.load 2 true (.tmp 20), (some 63), none, [], none⟩,
  ⟨.load 2 true (.tmp 21), (some 64), none, [], none⟩,
  ⟨.bslice 2 2 [(.v (.int .i64 0)), (.v (.int .i64 0)), (.v (.int .i64 0)), (.v (.int .i64 0))] [(0, 2, (.tmp 63)), (2, 2, (.tmp 64))], (some 65), none, [3, 4], none⟩,
  ⟨.call 69 [(.tmp 62), (.tmp 65)], (some 66), none, [2, 5], none⟩,
  ⟨.mov (.tmp 6), (some 67), none, [], none⟩,
  ⟨.mov (.tmp 19), (some 68), none, [], none⟩,
  ⟨.call 68 [(.tmp 60), (.tmp 66), (.tmp 67), (.tmp 68)], (some 69), none, [0, 6, 7, 8, 6], none⟩,
  ⟨.store 4 (.tmp 16) (.tmp 69), none, none, [9, 9, 0, 1, 2, 3, 4, 5, 6, 7, 8, 9], none⟩]
def d46r21 : List RO := [
  ⟨.mov (.tmp 19), (some 38), none, [], none⟩,
  ⟨.bin .add (.tmp 38) (.con (.v (.int .i64 1))), (some 39), none, [0], none⟩,
  ⟨.mov (.tmp 39), (some 19), none, [1, 0, 1], none⟩]
def d46r22 : List RO := [
  ⟨.load 4 true (.tmp 16), (some 155), none, [], none⟩,
  ⟨.store 4 (.tmp 14) (.tmp 155), none, none, [0, 0], none⟩]
def d46 : DC := (.seq (.region false d46r0)
  (.seq (.region false d46r1)
  (.seq (.region false d46r2)
  (.seq (.seq (.region false d46r3)
  (.block 0 (.seq (.region false d46r4)
  (.cond (.tmp 70) (.seq (.region false d46r5)
  (.cond (.tmp 74) (.region true d46r6)
  .skip))
  (.seq (.region false d46r7)
  (.cond (.tmp 82) (.seq (.region false d46r8)
  (.block 3 (.loop (.seq (.seq (.region false d46r9)
  (.cond (.tmp 88) .skip
  (.exit 3)))
  (.seq (.block 4 (.seq (.region true d46r10)
  (.cond (.tmp 119) (.region true d46r11)
  .skip)))
  (.region false d46r12))))))
  (.seq (.region false d46r13)
  (.cond (.tmp 134) (.seq (.region false d46r14)
  (.region true d46r15))
  (.seq (.region false d46r16)
  (.block 1 (.loop (.seq (.seq (.region false d46r17)
  (.cond (.tmp 37) .skip
  (.exit 1)))
  (.seq (.block 2 (.seq (.region false d46r18)
  (.seq (.region false d46r19)
  (.region true d46r20))))
  (.region false d46r21))))))))))))))
  (.seq (.region false d46r22)
  .ret)))))
def d46res : List DRes := [.cell 14 4 true]
theorem c46 [Laid] : CodeOf Tryz.prog 46 156 d46 d46res := ⟨Tryz.f46, by kernel_rfl, by kernel_rfl, by kernel_rfl, by kernel_rfl, by kernel_rfl⟩
-- emendate/emendateref40.Span
def d24r0 : List RO := [
  ⟨.box (.tmp 0), (some 5), none, [], none⟩,
  ⟨.box (.tmp 1), (some 6), none, [], none⟩,
  ⟨.box (.tmp 2), (some 7), none, [], none⟩,
  ⟨.mov (.con .nil0), (some 10), none, [], none⟩]
def d24r1 : List RO := [
  ⟨.mov (.con .nil0), (some 11), none, [], none⟩]
def d24r2 : List RO := [
  ⟨.mov (.con (.v (.int .i64 0))), (some 12), none, [], none⟩]
def d24r3 : List RO := [
  ⟨.mov (.tmp 12), (some 16), none, [], none⟩,
  ⟨.addOff 1 (.tmp 5), (some 17), none, [], none⟩,
  ⟨.load 1 false (.tmp 17), (some 18), none, [1], none⟩,
  ⟨.bin .lss (.tmp 16) (.tmp 18), (some 19), none, [0, 2], none⟩]
def d24r4 : List RO := [
  ⟨.mov (.tmp 11), (some 22), none, [], none⟩,
  ⟨.call 42 [], (some 23), none, [], none⟩,
  ⟨.bslice 1 4 [(.v (.int .i64 0)), (.v (.int .i64 0)), (.v (.int .i64 0)), (.v (.int .i64 0))] [(0, 4, (.tmp 23))], (some 24), none, [1], none⟩,
  ⟨.append 57 4 32 (.tmp 22) (.tmp 24), (some 25), none, [0, 2, 1], none⟩,
  ⟨.mov (.tmp 25), (some 11), none, [3, 3, 0, 1, 2, 3], none⟩]
def d24r5 : List RO := [
  ⟨.mov (.tmp 12), (some 20), none, [], none⟩,
  ⟨.bin .add (.tmp 20) (.con (.v (.int .i64 1))), (some 21), none, [0], none⟩,
  ⟨.mov (.tmp 21), (some 12), none, [1, 0, 1], none⟩]
def d24r6 : List RO := [
  ⟨.mov (.con (.v (.bool true))), (some 13), none, [], none⟩]
def d24r7 : List RO := [
  ⟨.mov (.tmp 13), (some 26), none, [], none⟩]
def d24r8 : List RO := [
  ⟨.mov (.con (.v (.bool false))), (some 13), none, [], none⟩]
def d24r9 : List RO := [
  ⟨.mov (.con (.v (.int .i64 0))), (some 14), none, [], none⟩]
def d24r10 : List RO := [
  ⟨.mov (.tmp 14), (some 27), none, [], none⟩,
  ⟨.addOff 3 (.tmp 5), (some 28), none, [], none⟩,
  ⟨.load 1 false (.tmp 28), (some 29), none, [1], none⟩,
  ⟨.len (.tmp 29), (some 30), none, [2], none⟩,
  ⟨.bin .lss (.tmp 27) (.tmp 30), (some 31), none, [0, 3], none⟩]
def d24r11 : List RO := [
  ⟨.load 4 true (.tmp 5), (some 34), none, [], none⟩,
  ⟨.load 3 true (.tmp 6), (some 35), none, [], none⟩,
  ⟨.load 3 true (.tmp 7), (some 36), none, [], none⟩,
  ⟨.mov (.tmp 11), (some 37), none, [], none⟩,
  ⟨.mov (.tmp 3), (some 38), none, [], none⟩,
  ⟨.mov (.tmp 4), (some 39), none, [], none⟩,
  ⟨.mov (.tmp 14), (some 40), none, [], none⟩,
  ⟨.call 46 [(.tmp 34), (.tmp 35), (.tmp 36), (.tmp 37), (.tmp 38), (.tmp 39), (.tmp 40)], (some 41), none, [0, 1, 2, 3, 4, 5, 6], none⟩,
  ⟨.alloc [(.v (.int .i64 0)), (.v (.int .i64 0)), (.v (.int .i64 0)), (.v (.int .i64 0))], (some 15), none, [], none⟩,
  ⟨.store 4 (.tmp 15) (.tmp 41), none, none, [8, 7, 7, 0, 1, 2, 3, 4, 5, 6, 7, 8], none⟩]
def d24r12 : List RO := [
  ⟨.load 4 true (.tmp 15), (some 42), none, [], none⟩,
  ⟨.mov (.tmp 11), (some 43), none, [], none⟩,
  ⟨.addOff 3 (.tmp 5), (some 44), none, [], none⟩,
  ⟨.load 1 false (.tmp 44), (some 45), none, [2], none⟩,
  ⟨.mov (.tmp 14), (some 46), none, [], none⟩,
  ⟨.idxAddr 6 (.tmp 45) (.tmp 46), (some 47), none, [3, 4], none⟩,
  ⟨.addOff 1 (.tmp 47), (some 48), none, [5], none⟩,
  ⟨.load 1 false (.tmp 48), (some 49), none, [6], none⟩,
  ⟨.idxAddr 4 (.tmp 43) (.tmp 49), (some 50), none, [1, 7], none⟩,
  ⟨.load 4 true (.tmp 50), (some 51), none, [8], none⟩,
  ⟨.eqT true true [(.int .i64), (.int .i64), (.int .i64), (.int .i64)] (.tmp 42) (.tmp 51), (some 52), none, [0, 9], none⟩]
def d24r13 : List RO := [
  ⟨.mov (.tmp 11), (some 53), none, [], none⟩,
  ⟨.addOff 3 (.tmp 5), (some 54), none, [], none⟩,
  ⟨.load 1 false (.tmp 54), (some 55), none, [1], none⟩,
  ⟨.mov (.tmp 14), (some 56), none, [], none⟩,
  ⟨.idxAddr 6 (.tmp 55) (.tmp 56), (some 57), none, [2, 3], none⟩,
  ⟨.addOff 1 (.tmp 57), (some 58), none, [4], none⟩,
  ⟨.load 1 false (.tmp 58), (some 59), none, [5], none⟩,
  ⟨.load 4 true (.tmp 15), (some 60), none, [], none⟩,
  ⟨.idxAddr 4 (.tmp 53) (.tmp 59), (some 61), none, [0, 6, 0, 1, 2, 3, 4, 5, 6, 7], none⟩,
  ⟨.store 4 (.tmp 61) (.tmp 60), none, none, [8, 7, 0, 1, 2, 3, 4, 5, 6, 7], none⟩,
  ⟨.mov (.con (.v (.bool true))), (some 13), none, [9, 0, 1, 2, 3, 4, 5, 6, 7, 8, 9], none⟩]
def d24r14 : List RO := [
  ⟨.mov (.tmp 14), (some 32), none, [], none⟩,
  ⟨.bin .add (.tmp 32) (.con (.v (.int .i64 1))), (some 33), none, [0], none⟩,
  ⟨.mov (.tmp 33), (some 14), none, [1, 0, 1], none⟩]
def d24r15 : List RO := [
  ⟨.mov (.tmp 11), (some 62), none, [], none⟩,
  ⟨.mov (.tmp 62), (some 10), none, [0, 0], none⟩]
def d24 : DC := (.seq (.region false d24r0)
  (.seq (.region false d24r1)
  (.seq (.seq (.region false d24r2)
  (.block 0 (.loop (.seq (.seq (.region false d24r3)
  (.cond (.tmp 19) .skip
  (.exit 0)))
  (.seq (.block 1 (.region false d24r4))
  (.region false d24r5))))))
  (.seq (.seq (.region false d24r6)
  (.block 2 (.loop (.seq (.seq (.region false d24r7)
  (.cond (.tmp 26) .skip
  (.exit 2)))
  (.block 3 (.seq (.region false d24r8)
  (.seq (.region false d24r9)
  (.block 4 (.loop (.seq (.seq (.region false d24r10)
  (.cond (.tmp 31) .skip
  (.exit 4)))
  (.seq (.block 5 (.seq (.region false d24r11)
  (.seq (.region true d24r12)
  (.cond (.tmp 52) (.region true d24r13)
  .skip))))
  (.region false d24r14))))))))))))
  (.seq (.region false d24r15)
  .ret)))))
def d24res : List DRes := [.slot 10]
theorem c24 [Laid] : CodeOf Tryz.prog 24 63 d24 d24res := ⟨Tryz.f24, by kernel_rfl, by kernel_rfl, by kernel_rfl, by kernel_rfl, by kernel_rfl⟩
-- emendate/emendateref40.Build
def d11r0 : List RO := [
  ⟨.box (.tmp 0), (some 2), none, [], none⟩,
  ⟨.box (.tmp 1), (some 3), none, [], none⟩,
  ⟨.alloc [(.v (.int .i64 0)), (.v (.int .i64 0)), .nil0], (some 4), none, [], none⟩]
def d11r1 : List RO := [
  ⟨.addOff 1 (.tmp 2), (some 11), none, [], none⟩,
  ⟨.load 1 false (.tmp 11), (some 12), none, [0], none⟩,
  ⟨.addOff 0 (.tmp 3), (some 13), none, [], none⟩,
  ⟨.load 1 false (.tmp 13), (some 14), none, [2], none⟩,
  ⟨.addOff 1 (.tmp 2), (some 15), none, [], none⟩,
  ⟨.load 1 false (.tmp 15), (some 16), none, [4], none⟩,
  ⟨.addOff 0 (.tmp 3), (some 17), none, [], none⟩,
  ⟨.load 1 false (.tmp 17), (some 18), none, [6], none⟩,
  ⟨.call 23 [(.tmp 16), (.tmp 18)], (some 19), none, [5, 7], none⟩,
  ⟨.mkSlice 57 4 32 [(.int .i64 0), (.int .i64 0), (.int .i64 0), (.int .i64 0)] (.tmp 19), (some 20), none, [8, 8], none⟩,
  ⟨.build [(.v (.int .i64 0)), (.v (.int .i64 0)), .nil0] [(0, 1, (.tmp 12)), (1, 1, (.tmp 14)), (2, 1, (.tmp 20))], (some 21), none, [1, 3, 9], none⟩,
  ⟨.alloc [(.v (.int .i64 0)), (.v (.int .i64 0)), .nil0], (some 5), none, [], none⟩,
  ⟨.store 3 (.tmp 5) (.tmp 21), none, none, [11, 10, 8, 0, 1, 2, 3, 4, 5, 6, 7, 8, 9, 10, 11], none⟩]
def d11r2 : List RO := [
  ⟨.mov (.con (.v (.int .i64 0))), (some 6), none, [], none⟩]
def d11r3 : List RO := [
  ⟨.mov (.tmp 6), (some 22), none, [], none⟩,
  ⟨.addOff 0 (.tmp 3), (some 23), none, [], none⟩,
  ⟨.load 1 false (.tmp 23), (some 24), none, [1], none⟩,
  ⟨.bin .lss (.tmp 22) (.tmp 24), (some 25), none, [0, 2], none⟩]
def d11r4 : List RO := [
  ⟨.mov (.con (.v (.int .i64 0))), (some 7), none, [], none⟩]
def d11r5 : List RO := [
  ⟨.mov (.tmp 7), (some 28), none, [], none⟩,
  ⟨.mov (.tmp 6), (some 29), none, [], none⟩,
  ⟨.bin .add (.tmp 28) (.tmp 29), (some 30), none, [0, 1], none⟩,
  ⟨.addOff 0 (.tmp 3), (some 31), none, [], none⟩,
  ⟨.load 1 false (.tmp 31), (some 32), none, [3], none⟩,
  ⟨.bin .lss (.tmp 30) (.tmp 32), (some 33), none, [2, 4], none⟩]
def d11r6 : List RO := [
  ⟨.load 4 true (.tmp 2), (some 36), none, [], none⟩,
  ⟨.load 3 true (.tmp 3), (some 37), none, [], none⟩,
  ⟨.load 3 true (.tmp 5), (some 38), none, [], none⟩,
  ⟨.mov (.tmp 7), (some 39), none, [], none⟩,
  ⟨.mov (.tmp 7), (some 40), none, [], none⟩,
  ⟨.mov (.tmp 6), (some 41), none, [], none⟩,
  ⟨.bin .add (.tmp 40) (.tmp 41), (some 42), none, [4, 5], none⟩,
  ⟨.call 24 [(.tmp 36), (.tmp 37), (.tmp 38), (.tmp 39), (.tmp 42)], (some 43), none, [0, 1, 2, 3, 6], none⟩,
  ⟨.mov (.tmp 43), (some 8), none, [7, 7, 0, 1, 2, 3, 4, 5, 6, 7], none⟩]
def d11r6S : List RO := [
  ⟨.load 4 true (.tmp 2), (some 36), none, [], none⟩,
  ⟨.load 3 true (.tmp 3), (some 37), none, [], none⟩,
  ⟨.load 3 true (.tmp 5), (some 38), none, [], none⟩,
  ⟨.mov (.tmp 7), (some 39), none, [], none⟩,
  ⟨.mov (.tmp 7), (some 40), none, [], none⟩,
  ⟨.mov (.tmp 6), (some 41), none, [], none⟩,
  ⟨.bin .add (.tmp 40) (.tmp 41), (some 42), none, [4, 5], none⟩,
  ⟨.callF 24 [(.tmp 36), (.tmp 37), (.tmp 38), (.tmp 39), (.tmp 42)], (some 43), none, [0, 1, 2, 3, 6], none⟩,
  ⟨.mov (.tmp 43), (some 8), none, [7, 7, 0, 1, 2, 3, 4, 5, 6, 7], none⟩]
def d11r7 : List RO := [
  ⟨.addOff 1 (.tmp 2), (some 44), none, [], none⟩,
  ⟨.load 1 false (.tmp 44), (some 45), none, [0], none⟩,
  ⟨.addOff 0 (.tmp 3), (some 46), none, [], none⟩,
  ⟨.load 1 false (.tmp 46), (some 47), none, [2], none⟩,
  ⟨.mov (.tmp 7), (some 48), none, [], none⟩,
  ⟨.mov (.tmp 7), (some 49), none, [], none⟩,
  ⟨.mov (.tmp 6), (some 50), none, [], none⟩,
  ⟨.bin .add (.tmp 49) (.tmp 50), (some 51), none, [5, 6], none⟩,
  ⟨.call 25 [(.tmp 45), (.tmp 47), (.tmp 48), (.tmp 51)], (some 52), none, [1, 3, 4, 7], none⟩,
  ⟨.mov (.tmp 52), (some 9), none, [8, 8, 0, 1, 2, 3, 4, 5, 6, 7, 8], none⟩]
def d11r8 : List RO := [
  ⟨.mov (.con (.v (.int .i64 0))), (some 10), none, [], none⟩]
def d11r9 : List RO := [
  ⟨.mov (.tmp 10), (some 53), none, [], none⟩,
  ⟨.mov (.tmp 8), (some 54), none, [], none⟩,
  ⟨.len (.tmp 54), (some 55), none, [1], none⟩,
  ⟨.bin .lss (.tmp 53) (.tmp 55), (some 56), none, [0, 2], none⟩]
def d11r10 : List RO := [
  ⟨.addOff 2 (.tmp 5), (some 59), none, [], none⟩,
  ⟨.load 1 false (.tmp 59), (some 60), none, [0], none⟩,
  ⟨.mov (.tmp 9), (some 61), none, [], none⟩,
  ⟨.mov (.tmp 10), (some 62), none, [], none⟩,
  ⟨.bin .add (.tmp 61) (.tmp 62), (some 63), none, [2, 3], none⟩,
  ⟨.mov (.tmp 8), (some 64), none, [], none⟩,
  ⟨.mov (.tmp 10), (some 65), none, [], none⟩,
  ⟨.idxAddr 4 (.tmp 64) (.tmp 65), (some 66), none, [5, 6], none⟩,
  ⟨.load 4 true (.tmp 66), (some 67), none, [7], none⟩,
  ⟨.idxAddr 4 (.tmp 60) (.tmp 63), (some 68), none, [1, 4, 0, 1, 2, 3, 4, 5, 6, 7, 8], none⟩,
  ⟨.store 4 (.tmp 68) (.tmp 67), none, none, [9, 8, 0, 1, 2, 3, 4, 5, 6, 7, 8], none⟩]
def d11r11 : List RO := [
  ⟨.mov (.tmp 10), (some 57), none, [], none⟩,
  ⟨.bin .add (.tmp 57) (.con (.v (.int .i64 1))), (some 58), none, [0], none⟩,
  ⟨.mov (.tmp 58), (some 10), none, [1, 0, 1], none⟩]
def d11r12 : List RO := [
  ⟨.mov (.tmp 7), (some 34), none, [], none⟩,
  ⟨.bin .add (.tmp 34) (.con (.v (.int .i64 1))), (some 35), none, [0], none⟩,
  ⟨.mov (.tmp 35), (some 7), none, [1, 0, 1], none⟩]
def d11r13 : List RO := [
  ⟨.mov (.tmp 6), (some 26), none, [], none⟩,
  ⟨.bin .add (.tmp 26) (.con (.v (.int .i64 1))), (some 27), none, [0], none⟩,
  ⟨.mov (.tmp 27), (some 6), none, [1, 0, 1], none⟩]
def d11r14 : List RO := [
  ⟨.load 3 true (.tmp 5), (some 69), none, [], none⟩,
  ⟨.store 3 (.tmp 4) (.tmp 69), none, none, [0, 0], none⟩]
def d11 : DC := (.seq (.region false d11r0)
  (.seq (.region true d11r1)
  (.seq (.seq (.region false d11r2)
  (.block 0 (.loop (.seq (.seq (.region false d11r3)
  (.cond (.tmp 25) .skip
  (.exit 0)))
  (.seq (.block 1 (.seq (.region false d11r4)
  (.block 2 (.loop (.seq (.seq (.region false d11r5)
  (.cond (.tmp 33) .skip
  (.exit 2)))
  (.seq (.block 3 (.seq (.region false d11r6)
  (.seq (.region false d11r7)
  (.seq (.region false d11r8)
  (.block 4 (.loop (.seq (.seq (.region false d11r9)
  (.cond (.tmp 56) .skip
  (.exit 4)))
  (.seq (.block 5 (.region true d11r10))
  (.region false d11r11)))))))))
  (.region false d11r12)))))))
  (.region false d11r13))))))
  (.seq (.region false d11r14)
  .ret))))
def d11res : List DRes := [.cell 4 3 true]
theorem c11 [Laid] : CodeOf Tryz.prog 11 70 d11 d11res := ⟨Tryz.f11, by kernel_rfl, by kernel_rfl, by kernel_rfl, by kernel_rfl, by kernel_rfl⟩
-- emendate/emendateref40.SameCells
-- emendate/emendateref40.Same
end Inc
end Go.Proofs
namespace Go.Proofs
open Go.DM
set_option linter.unusedSimpArgs false
set_option linter.unusedVariables false

abbrev ti (n : Int) : T := .int .i64 n
def unti : T → Int
  | .int _ n => n
  | _ => 0
structure Arc where
  (f t term cost : Int)
  ops : List (Int × Int)
  deriving DecidableEq, Inhabited
structure Lattice where
  states : Int
  arcs : List Arc
  final : List Int
structure Column where
  kind : Int
  read : List Int
  delete : Int
  deriving Inhabited
structure Input where
  columns : List Column
  insert : List Int
  swap : Int
def opsT (l : List (Int × Int)) : List (List T) := l.map fun o => [ti o.1, ti o.2]
def Arc.enc (a : Arc) : List T := [ti a.f, ti a.t, ti a.term, ti a.cost, .sl (opsT a.ops)]
def arcsT (l : List Arc) : List (List T) := l.map Arc.enc
def intsT (l : List Int) : List (List T) := l.map fun x => [ti x]
def Lattice.enc (l : Lattice) : T := .agg [ti l.states, .sl (arcsT l.arcs), .sl (intsT l.final)]
def Column.enc (c : Column) : List T := [ti c.kind, .sl (intsT c.read), ti c.delete]
def colsT (l : List Column) : List (List T) := l.map Column.enc
def Input.enc (x : Input) : T := .agg [.sl (colsT x.columns), .sl (intsT x.insert), ti x.swap]

theorem map_map_id {α β : Type} {f : α → β} {g : β → α} (h : ∀ a, g (f a) = a) (l : List α) : (l.map f).map g = l := by
  rw [List.map_map]; conv => rhs; rw [← List.map_id l]
  exact List.map_congr_left fun a _ => h a
def decInts (l : List (List T)) : List Int := l.map fun x => unti (x.getD 0 (ti 0))
def decOps (l : List (List T)) : List (Int × Int) := l.map fun x => (unti (x.getD 0 (ti 0)), unti (x.getD 1 (ti 0)))
def decArc : List T → Arc
  | [a, b, c, d, .sl o] => ⟨unti a, unti b, unti c, unti d, decOps o⟩
  | _ => default
def decArcs (l : List (List T)) : List Arc := l.map decArc
def decCol : List T → Column
  | [a, .sl b, c] => ⟨unti a, decInts b, unti c⟩
  | _ => default
def decCols (l : List (List T)) : List Column := l.map decCol
def decL : T → Lattice
  | .agg [a, .sl b, .sl c] => ⟨unti a, decArcs b, decInts c⟩
  | _ => ⟨0, [], []⟩
def decX : T → Input
  | .agg [.sl a, .sl b, c] => ⟨decCols a, decInts b, unti c⟩
  | _ => ⟨[], [], 0⟩
@[simp] theorem decInts_enc (l : List Int) : decInts (intsT l) = l := map_map_id (fun _ => rfl) l
@[simp] theorem decOps_enc (l : List (Int × Int)) : decOps (opsT l) = l := map_map_id (fun _ => rfl) l
@[simp] theorem decArc_enc (a : Arc) : decArc a.enc = a := by simp [decArc, Arc.enc, unti]
@[simp] theorem decArcs_enc (l : List Arc) : decArcs (arcsT l) = l := map_map_id decArc_enc l
@[simp] theorem decCol_enc (a : Column) : decCol a.enc = a := by simp [decCol, Column.enc, unti]
@[simp] theorem decCols_enc (l : List Column) : decCols (colsT l) = l := map_map_id decCol_enc l
@[simp] theorem decL_enc' (a : Int) (l : List Arc) (f : List Int) : decL (.agg [ti a, .sl (arcsT l), .sl (intsT f)]) = ⟨a, l, f⟩ := by simp [decL, unti]
@[simp] theorem decL_enc (n : Lattice) : decL n.enc = n := by simp [Lattice.enc]
@[simp] theorem decX_enc' (a : List Column) (b : List Int) (c : Int) : decX (.agg [.sl (colsT a), .sl (intsT b), ti c]) = ⟨a, b, c⟩ := by simp [decX, unti]
@[simp] theorem decX_enc (x : Input) : decX x.enc = x := by simp [Input.enc]

theorem rowAt_ints {l : List Int} {y : Nat} (h : y < l.length) : DM.rowAt (intsT l) y = [ti (l.getD y default)] := by simp [DM.rowAt, intsT, h]
theorem rowAt_arcs {l : List Arc} {y : Nat} (h : y < l.length) : DM.rowAt (arcsT l) y = (l.getD y default).enc := by simp [DM.rowAt, arcsT, h]
theorem rowAt_cols {l : List Column} {y : Nat} (h : y < l.length) : DM.rowAt (colsT l) y = (l.getD y default).enc := by simp [DM.rowAt, colsT, h]
@[simp] theorem intsT_len (l : List Int) : (intsT l).length = l.length := by simp [intsT]
@[simp] theorem opsT_len (l : List (Int × Int)) : (opsT l).length = l.length := by simp [opsT]
@[simp] theorem arcsT_len (l : List Arc) : (arcsT l).length = l.length := by simp [arcsT]
@[simp] theorem colsT_len (l : List Column) : (colsT l).length = l.length := by simp [colsT]



abbrev keySh : List Sh := [.int .i64, .int .i64, .int .i64]
def keyOf (f t x : Int) : T := .agg [ti f, ti t, ti x]
def Arc.key (a : Arc) : T := keyOf a.f a.t a.term
/-- The entries of the builder's map. -/
def entries (al : List Arc) : List (Nat × T × DV) := al.zipIdx.map fun p => (p.2, p.1.key, .v (.agg p.1.enc))
def mapOb (al : List Arc) : Ob := .map keySh true al.length (entries al)
/-- The cheapest candidates so far: one more. -/
def sameKey (a b : Arc) : Bool := decide (a.f = b.f ∧ a.t = b.t ∧ a.term = b.term)
def addL (al : List Arc) (a : Arc) : List Arc :=
  if a.cost < 1099511627776 then
    match al.findIdx? (sameKey a) with
    | none => al ++ [a]
    | some i => if a.cost < (al.getD i default).cost then al.set i a else al
  else al

/-- What a map's entry costs. -/
def costOf : DV → Int
  | .v (.agg [_, _, _, .int _ c, _]) => c
  | _ => 0
/-- Is the candidate better than what the map holds at its key? -/
def better (k : T) (c : Int) (es : List (Nat × T × DV)) : Bool :=
  decide (c < 1099511627776) && match findE k es with | none => true | some e => decide (c < costOf e.2.2)
end Go.Proofs
