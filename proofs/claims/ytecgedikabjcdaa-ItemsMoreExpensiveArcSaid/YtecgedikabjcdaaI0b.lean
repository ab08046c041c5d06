import Derived.Test.YtecgedikabjcdaaProg
import Derived.KernelRfl
import Derived.Test.YtecgedikabjcdaaMe
set_option linter.unusedVariables false
namespace Go.Proofs
open Go.DM
-- emendate/items.Hypergraph
def d11r0 : List RO := [
  ⟨.box (.tmp 0), (some 2), none, [], none⟩,
  ⟨.box (.tmp 1), (some 3), none, [], none⟩,
  ⟨.alloc [(.v (.int .i64 0)), .nil0], (some 4), none, [], none⟩]
def d11r1 : List RO := [
  ⟨.load 4 true (.tmp 2), (some 14), none, [], none⟩,
  ⟨.load 3 true (.tmp 3), (some 15), none, [], none⟩,
  ⟨.call 32 [(.tmp 14), (.tmp 15)], (some 16), none, [0, 1], none⟩,
  ⟨.alloc [(.v (.int .i64 0)), (.v (.int .i64 0))], (some 5), none, [], none⟩,
  ⟨.store 2 (.tmp 5) (.tmp 16), none, none, [3, 2, 2, 0, 1, 2, 3], none⟩]
def d11r2 : List RO := [
  ⟨.load 2 true (.tmp 5), (some 17), none, [], none⟩,
  ⟨.call 33 [(.tmp 17)], (some 18), none, [0], none⟩,
  ⟨.bin .add (.tmp 18) (.con (.v (.int .i64 1))), (some 19), none, [1], none⟩,
  ⟨.build [(.v (.int .i64 0)), .nil0] [(0, 1, (.tmp 19))], (some 20), none, [2], none⟩,
  ⟨.alloc [(.v (.int .i64 0)), .nil0], (some 6), none, [], none⟩,
  ⟨.store 2 (.tmp 6) (.tmp 20), none, none, [4, 3, 1, 0, 1, 2, 3, 4], none⟩]
def d11r3 : List RO := [
  ⟨.addOff 0 (.tmp 3), (some 21), none, [], none⟩,
  ⟨.load 1 false (.tmp 21), (some 22), none, [0], none⟩,
  ⟨.mov (.con (.v (.int .i64 0))), (some 23), none, [], none⟩]
def d11r4 : List RO := [
  ⟨.bin .lss (.tmp 23) (.tmp 22), (some 24), none, [], none⟩]
def d11r5 : List RO := [
  ⟨.mov (.tmp 23), (some 25), none, [], none⟩,
  ⟨.mov (.tmp 25), (some 7), none, [0, 0], none⟩]
def d11r6 : List RO := [
  ⟨.mov (.tmp 7), (some 26), none, [], none⟩,
  ⟨.mov (.tmp 26), (some 8), none, [0, 0], none⟩]
def d11r7 : List RO := [
  ⟨.mov (.tmp 8), (some 27), none, [], none⟩,
  ⟨.addOff 0 (.tmp 3), (some 28), none, [], none⟩,
  ⟨.load 1 false (.tmp 28), (some 29), none, [1], none⟩,
  ⟨.bin .lss (.tmp 27) (.tmp 29), (some 30), none, [0, 2], none⟩]
def d11r8 : List RO := [
  ⟨.alloc [.nil0], (some 9), none, [], none⟩]
def d11r9 : List RO := [
  ⟨.addOff 3 (.tmp 2), (some 33), none, [], none⟩,
  ⟨.load 1 false (.tmp 33), (some 34), none, [0], none⟩,
  ⟨.len (.tmp 34), (some 35), none, [1], none⟩,
  ⟨.mov (.con (.v (.int .i64 0))), (some 36), none, [], none⟩]
def d11r10 : List RO := [
  ⟨.bin .lss (.tmp 36) (.tmp 35), (some 37), none, [], none⟩]
def d11r11 : List RO := [
  ⟨.mov (.tmp 36), (some 38), none, [], none⟩,
  ⟨.mov (.tmp 38), (some 10), none, [0, 0], none⟩]
def d11r12 : List RO := [
  ⟨.load 4 true (.tmp 2), (some 39), none, [], none⟩,
  ⟨.load 3 true (.tmp 3), (some 40), none, [], none⟩,
  ⟨.mov (.tmp 10), (some 41), none, [], none⟩,
  ⟨.mov (.tmp 7), (some 42), none, [], none⟩,
  ⟨.mov (.tmp 8), (some 43), none, [], none⟩,
  ⟨.call 34 [(.tmp 39), (.tmp 40), (.tmp 41), (.tmp 42), (.tmp 43)], (some 44), none, [0, 1, 2, 3, 4], none⟩]
def d11r13 : List RO := [
  ⟨.alloc [(.v (.int .i64 0)), .nil0, (.v (.int .i64 0)), (.v (.int .i64 0)), (.v (.int .i64 0))], (some 11), none, [], none⟩,
  ⟨.store 5 (.tmp 11) (.tmp 45), none, none, [0, 0], none⟩]
def d11r14 : List RO := [
  ⟨.load 1 false (.tmp 9), (some 46), none, [], none⟩,
  ⟨.load 5 true (.tmp 11), (some 47), none, [], none⟩,
  ⟨.bslice 1 5 [(.v (.int .i64 0)), .nil0, (.v (.int .i64 0)), (.v (.int .i64 0)), (.v (.int .i64 0))] [(0, 5, (.tmp 47))], (some 48), none, [1], none⟩,
  ⟨.append 47 5 56 (.tmp 46) (.tmp 48), (some 49), none, [0, 2], none⟩,
  ⟨.store 1 (.tmp 9) (.tmp 49), none, none, [3, 3, 0, 1, 2, 3], none⟩]
def d11r15 : List RO := [
  ⟨.bin .add (.tmp 36) (.con (.v (.int .i64 1))), (some 50), none, [], none⟩,
  ⟨.mov (.tmp 50), (some 36), none, [0], none⟩]
def d11r16 : List RO := [
  ⟨.load 1 false (.tmp 9), (some 51), none, [], none⟩,
  ⟨.call 35 [(.tmp 51), (.con (.v (.fn (.func 36) [])))], (some 52), none, [0], none⟩]
def d11r16S : List RO := [
  ⟨.load 1 false (.tmp 9), (some 51), none, [], none⟩,
  ⟨.callS 35 [(.tmp 51), (.con (.v (.fn (.func 36) [])))], (some 52), none, [0], none⟩]
def d11r17 : List RO := [
  ⟨.addOff 1 (.tmp 6), (some 53), none, [], none⟩,
  ⟨.load 1 false (.tmp 53), (some 54), none, [0], none⟩,
  ⟨.load 1 false (.tmp 9), (some 55), none, [], none⟩,
  ⟨.append 47 5 56 (.tmp 54) (.tmp 55), (some 56), none, [1, 2], none⟩,
  ⟨.addOff 1 (.tmp 6), (some 57), none, [0, 1, 2, 3], none⟩,
  ⟨.store 1 (.tmp 57) (.tmp 56), none, none, [4, 3, 3, 0, 1, 2, 3], none⟩]
def d11r18 : List RO := [
  ⟨.mov (.tmp 8), (some 31), none, [], none⟩,
  ⟨.bin .add (.tmp 31) (.con (.v (.int .i64 1))), (some 32), none, [0], none⟩,
  ⟨.mov (.tmp 32), (some 8), none, [1, 0, 1], none⟩]
def d11r19 : List RO := [
  ⟨.bin .add (.tmp 23) (.con (.v (.int .i64 1))), (some 58), none, [], none⟩,
  ⟨.mov (.tmp 58), (some 23), none, [0], none⟩]
def d11r20 : List RO := [
  ⟨.addOff 2 (.tmp 3), (some 59), none, [], none⟩,
  ⟨.load 1 false (.tmp 59), (some 60), none, [0], none⟩,
  ⟨.len (.tmp 60), (some 61), none, [1], none⟩,
  ⟨.mov (.con (.v (.int .i64 0))), (some 62), none, [], none⟩]
def d11r21 : List RO := [
  ⟨.bin .lss (.tmp 62) (.tmp 61), (some 63), none, [], none⟩]
def d11r22 : List RO := [
  ⟨.mov (.tmp 62), (some 64), none, [], none⟩,
  ⟨.idxAddr 1 (.tmp 60) (.tmp 62), (some 65), none, [], none⟩,
  ⟨.load 1 false (.tmp 65), (some 66), none, [1], none⟩,
  ⟨.mov (.tmp 64), (some 12), none, [0, 0, 1, 2], none⟩,
  ⟨.mov (.tmp 66), (some 13), none, [2, 3, 0, 1, 2, 3], none⟩]
def d11r23 : List RO := [
  ⟨.mov (.tmp 13), (some 67), none, [], none⟩,
  ⟨.bin .lss (.tmp 67) (.con (.v (.int .i64 1099511627776))), (some 68), none, [0], none⟩]
def d11r24 : List RO := [
  ⟨.addOff 1 (.tmp 6), (some 69), none, [], none⟩,
  ⟨.load 1 false (.tmp 69), (some 70), none, [0], none⟩,
  ⟨.load 2 true (.tmp 5), (some 71), none, [], none⟩,
  ⟨.call 33 [(.tmp 71)], (some 72), none, [2], none⟩,
  ⟨.load 2 true (.tmp 5), (some 73), none, [], none⟩,
  ⟨.addOff 2 (.tmp 2), (some 74), none, [], none⟩,
  ⟨.load 1 false (.tmp 74), (some 75), none, [5], none⟩,
  ⟨.mov (.tmp 12), (some 76), none, [], none⟩,
  ⟨.call 37 [(.tmp 73), (.tmp 75), (.con (.v (.int .i64 0))), (.tmp 76)], (some 77), none, [4, 6, 7, 3], none⟩,
  ⟨.bslice 1 1 [(.v (.int .i64 0))] [(0, 1, (.tmp 77))], (some 78), none, [8], none⟩,
  ⟨.mov (.tmp 13), (some 79), none, [], none⟩,
  ⟨.mov (.tmp 12), (some 80), none, [], none⟩,
  ⟨.build [(.v (.int .i64 0)), (.v (.int .i64 0))] [(0, 1, (.con (.v (.int .i64 (-1))))), (1, 1, (.tmp 80))], (some 81), none, [11], none⟩,
  ⟨.build [(.v (.int .i64 0)), .nil0, (.v (.int .i64 0)), (.v (.int .i64 0)), (.v (.int .i64 0))] [(0, 1, (.tmp 72)), (1, 1, (.tmp 78)), (2, 1, (.tmp 79)), (3, 2, (.tmp 81))], (some 82), none, [3, 9, 10, 12], none⟩,
  ⟨.bslice 1 5 [(.v (.int .i64 0)), .nil0, (.v (.int .i64 0)), (.v (.int .i64 0)), (.v (.int .i64 0))] [(0, 5, (.tmp 82))], (some 83), none, [13], none⟩,
  ⟨.append 47 5 56 (.tmp 70) (.tmp 83), (some 84), none, [1, 14, 8], none⟩,
  ⟨.addOff 1 (.tmp 6), (some 85), none, [0, 1, 2, 3, 4, 5, 6, 7, 8, 9, 10, 11, 12, 13, 14, 15], none⟩,
  ⟨.store 1 (.tmp 85) (.tmp 84), none, none, [16, 15, 15, 0, 1, 2, 3, 4, 5, 6, 7, 8, 9, 10, 11, 12, 13, 14, 15], none⟩]
def d11r25 : List RO := [
  ⟨.bin .add (.tmp 62) (.con (.v (.int .i64 1))), (some 86), none, [], none⟩,
  ⟨.mov (.tmp 86), (some 62), none, [0], none⟩]
def d11r26 : List RO := [
  ⟨.load 2 true (.tmp 6), (some 87), none, [], none⟩,
  ⟨.store 2 (.tmp 4) (.tmp 87), none, none, [0, 0], none⟩]
def d11 : DC := (.seq (.region false d11r0)
  (.seq (.region false d11r1)
  (.seq (.region false d11r2)
  (.seq (.seq (.region false d11r3)
  (.block 0 (.loop (.seq (.region false d11r4)
  (.seq (.cond (.tmp 24) .skip
  (.exit 0))
  (.seq (.block 1 (.seq (.region false d11r5)
  (.seq (.region false d11r6)
  (.block 2 (.loop (.seq (.seq (.region false d11r7)
  (.cond (.tmp 30) .skip
  (.exit 2)))
  (.seq (.block 3 (.seq (.region false d11r8)
  (.seq (.seq (.region false d11r9)
  (.block 4 (.loop (.seq (.region false d11r10)
  (.seq (.cond (.tmp 37) .skip
  (.exit 4))
  (.seq (.block 5 (.seq (.region false d11r11)
  (.seq (.region false d11r12)
  (.block 6 (.rangeF (.tmp 44) [45] (.region false d11r13)
  (.block 7 (.region false d11r14)))))))
  (.region false d11r15)))))))
  (.seq (.region false d11r16)
  (.region false d11r17)))))
  (.region false d11r18))))))))
  (.region false d11r19)))))))
  (.seq (.seq (.region false d11r20)
  (.block 8 (.loop (.seq (.region false d11r21)
  (.seq (.cond (.tmp 63) .skip
  (.exit 8))
  (.seq (.block 9 (.seq (.region false d11r22)
  (.seq (.region false d11r23)
  (.cond (.tmp 68) (.region true d11r24)
  .skip))))
  (.region false d11r25)))))))
  (.seq (.region false d11r26)
  .ret))))))
def d11res : List DRes := [.cell 4 2 true]
theorem c11 : CodeOf Try.prog 11 88 d11 d11res := ⟨Try.f11, by kernel_rfl, by kernel_rfl, by kernel_rfl, by kernel_rfl, by kernel_rfl⟩
-- emendate/items.instances
def d34r0 : List RO := [
  ⟨.box (.tmp 0), (some 5), none, [], none⟩,
  ⟨.box (.tmp 1), (some 6), none, [], none⟩,
  ⟨.box (.tmp 2), (some 7), none, [], none⟩,
  ⟨.box (.tmp 3), (some 8), none, [], none⟩,
  ⟨.box (.tmp 4), (some 9), none, [], none⟩,
  ⟨.mov (.con (.v (.raw (Go.Value.nilFunc)))), (some 10), none, [], none⟩]
def d34r1 : List RO := [
  ⟨.load 4 true (.tmp 5), (some 14), none, [], none⟩,
  ⟨.load 3 true (.tmp 6), (some 15), none, [], none⟩,
  ⟨.call 32 [(.tmp 14), (.tmp 15)], (some 16), none, [0, 1], none⟩,
  ⟨.alloc [(.v (.int .i64 0)), (.v (.int .i64 0))], (some 11), none, [], none⟩,
  ⟨.store 2 (.tmp 11) (.tmp 16), none, none, [3, 2, 2, 0, 1, 2, 3], none⟩]
def d34r2 : List RO := [
  ⟨.addOff 3 (.tmp 5), (some 17), none, [], none⟩,
  ⟨.load 1 false (.tmp 17), (some 18), none, [0], none⟩,
  ⟨.load 1 false (.tmp 7), (some 19), none, [], none⟩,
  ⟨.idxAddr 6 (.tmp 18) (.tmp 19), (some 20), none, [1, 2], none⟩,
  ⟨.load 6 true (.tmp 20), (some 21), none, [3], none⟩,
  ⟨.alloc [(.v (.int .i64 0)), (.v (.int .i64 0)), (.v (.int .i64 0)), (.v (.int .i64 0)), (.v (.int .i64 0)), (.v (.int .i64 0))], (some 12), none, [], none⟩,
  ⟨.store 6 (.tmp 12) (.tmp 21), none, none, [5, 4, 0, 1, 2, 3, 4, 5], none⟩]
def d34r3 : List RO := [
  ⟨.mkFn (.func 46) [(.tmp 11), (.tmp 12), (.tmp 8), (.tmp 9), (.tmp 7)], (some 22), none, [], none⟩,
  ⟨.alloc [(.v (.raw (Go.Value.nilFunc)))], (some 13), none, [], none⟩,
  ⟨.store 1 (.tmp 13) (.tmp 22), none, none, [1, 0, 0, 1], none⟩]
def d34r4 : List RO := [
  ⟨.mkFn (.func 47) [(.tmp 12), (.tmp 8), (.tmp 9), (.tmp 13), (.tmp 6), (.tmp 11)], (some 23), none, [], none⟩,
  ⟨.mov (.tmp 23), (some 10), none, [0, 0], none⟩]
def d34 : DC := (.seq (.region false d34r0)
  (.seq (.region false d34r1)
  (.seq (.region false d34r2)
  (.seq (.region false d34r3)
  (.seq (.region false d34r4)
  .ret)))))
def d34res : List DRes := [.slot 10]
theorem c34 : CodeOf Try.prog 34 24 d34 d34res := ⟨Try.f34, by kernel_rfl, by kernel_rfl, by kernel_rfl, by kernel_rfl, by kernel_rfl⟩
-- emendate/items.instances$1
def d46r0 : List RO := [
  ⟨.alloc [(.v (.int .i64 0)), .nil0, (.v (.int .i64 0)), (.v (.int .i64 0)), (.v (.int .i64 0))], (some 11), none, [], none⟩]
def d46r1 : List RO := [
  ⟨.load 2 true (.tmp 3), (some 12), none, [], none⟩,
  ⟨.addOff 1 (.tmp 4), (some 13), none, [], none⟩,
  ⟨.load 1 false (.tmp 13), (some 14), none, [1], none⟩,
  ⟨.load 1 false (.tmp 5), (some 15), none, [], none⟩,
  ⟨.load 1 false (.tmp 6), (some 16), none, [], none⟩,
  ⟨.call 37 [(.tmp 12), (.tmp 14), (.tmp 15), (.tmp 16)], (some 17), none, [0, 2, 3, 4], none⟩,
  ⟨.mov (.tmp 2), (some 18), none, [], none⟩,
  ⟨.mov (.tmp 0), (some 19), none, [], none⟩,
  ⟨.minmax false (.tmp 19) (.con (.v (.int .i64 1099511627776))), (some 20), none, [7], none⟩,
  ⟨.load 1 false (.tmp 7), (some 21), none, [], none⟩,
  ⟨.mov (.tmp 1), (some 22), none, [], none⟩,
  ⟨.build [(.v (.int .i64 0)), (.v (.int .i64 0))] [(0, 1, (.tmp 21)), (1, 1, (.tmp 22))], (some 23), none, [9, 10], none⟩,
  ⟨.build [(.v (.int .i64 0)), .nil0, (.v (.int .i64 0)), (.v (.int .i64 0)), (.v (.int .i64 0))] [(0, 1, (.tmp 17)), (1, 1, (.tmp 18)), (2, 1, (.tmp 20)), (3, 2, (.tmp 23))], (some 24), none, [5, 6, 8, 11], none⟩,
  ⟨.store 5 (.tmp 11) (.tmp 24), none, none, [12, 5, 0, 1, 2, 3, 4, 5, 6, 7, 8, 9, 10, 11, 12], none⟩]
def d46 : DC := (.seq (.region false d46r0)
  (.seq (.region true d46r1)
  .ret))
def d46res : List DRes := [.cell 11 5 true]
theorem c46 : CodeOf Try.prog 46 25 d46 d46res := ⟨Try.f46, by kernel_rfl, by kernel_rfl, by kernel_rfl, by kernel_rfl, by kernel_rfl⟩
-- emendate/items.instances$2
def d47r0 : List RO := [
  ⟨.addOff 0 (.tmp 1), (some 11), none, [], none⟩,
  ⟨.load 1 false (.tmp 11), (some 12), none, [0], none⟩]
def d47r1 : List RO := [
  ⟨.bin .eql (.tmp 12) (.con (.v (.int .i64 1))), (some 14), none, [], none⟩,
  ⟨.mov (.tmp 14), (some 13), none, [0], none⟩]
def d47r2 : List RO := [
  ⟨.load 1 false (.tmp 2), (some 15), none, [], none⟩,
  ⟨.load 1 false (.tmp 3), (some 16), none, [], none⟩,
  ⟨.bin .eql (.tmp 15) (.tmp 16), (some 17), none, [0, 1], none⟩]
def d47r3 : List RO := [
  ⟨.mov (.tmp 0), (some 18), none, [], none⟩,
  ⟨.load 1 false (.tmp 4), (some 19), none, [], none⟩,
  ⟨.addOff 4 (.tmp 1), (some 20), none, [], none⟩,
  ⟨.load 1 false (.tmp 20), (some 21), none, [2], none⟩,
  ⟨.load 1 false (.tmp 2), (some 22), none, [], none⟩,
  ⟨.callv (.tmp 19) [(.tmp 21), (.tmp 22), (.con .nil0)], (some 23), none, [1, 3, 4], none⟩,
  ⟨.callv (.tmp 18) [(.tmp 23)], (some 24), none, [0, 5, 5], none⟩]
def d47r4 : List RO := [
  ⟨.bin .eql (.tmp 12) (.con (.v (.int .i64 2))), (some 26), none, [], none⟩,
  ⟨.mov (.tmp 26), (some 25), none, [0], none⟩]
def d47r5 : List RO := [
  ⟨.addOff 1 (.tmp 5), (some 27), none, [], none⟩,
  ⟨.load 1 false (.tmp 27), (some 28), none, [0], none⟩,
  ⟨.len (.tmp 28), (some 29), none, [1], none⟩,
  ⟨.mov (.con (.v (.int .i64 0))), (some 30), none, [], none⟩]
def d47r6 : List RO := [
  ⟨.bin .lss (.tmp 30) (.tmp 29), (some 31), none, [], none⟩]
def d47r7 : List RO := [
  ⟨.mov (.tmp 30), (some 32), none, [], none⟩,
  ⟨.idxAddr 5 (.tmp 28) (.tmp 30), (some 33), none, [], none⟩,
  ⟨.load 5 true (.tmp 33), (some 34), none, [1], none⟩,
  ⟨.alloc [(.v (.int .i64 0)), (.v (.int .i64 0)), (.v (.int .i64 0)), (.v (.int .i64 0)), .nil0], (some 9), none, [], none⟩,
  ⟨.mov (.tmp 32), (some 8), none, [0, 0, 1, 2, 3], none⟩,
  ⟨.store 5 (.tmp 9) (.tmp 34), none, none, [3, 2, 4, 0, 1, 2, 3, 4], none⟩]
def d47r8 : List RO := [
  ⟨.addOff 0 (.tmp 9), (some 35), none, [], none⟩,
  ⟨.load 1 false (.tmp 35), (some 36), none, [0], none⟩,
  ⟨.load 1 false (.tmp 2), (some 37), none, [], none⟩,
  ⟨.bin .eql (.tmp 36) (.tmp 37), (some 38), none, [1, 2], none⟩,
  ⟨.mov (.tmp 38), (some 39), none, [3], none⟩,
  ⟨.addOff 1 (.tmp 9), (some 40), (some (39, true)), [4], none⟩,
  ⟨.load 1 false (.tmp 40), (some 41), (some (39, true)), [5, 4], none⟩,
  ⟨.load 1 false (.tmp 3), (some 42), (some (39, true)), [4], none⟩,
  ⟨.bin .eql (.tmp 41) (.tmp 42), (some 43), (some (39, true)), [6, 7, 4], none⟩,
  ⟨.pick (.tmp 39) (.tmp 43) (.con (.v (.bool false))), (some 44), none, [4, 8], none⟩,
  ⟨.mov (.tmp 44), (some 45), none, [9, 4], none⟩,
  ⟨.addOff 2 (.tmp 9), (some 46), (some (45, true)), [10], none⟩,
  ⟨.load 1 false (.tmp 46), (some 47), (some (45, true)), [11, 10], none⟩,
  ⟨.addOff 2 (.tmp 1), (some 48), (some (45, true)), [10], none⟩,
  ⟨.load 1 false (.tmp 48), (some 49), (some (45, true)), [13, 10], none⟩,
  ⟨.bin .eql (.tmp 47) (.tmp 49), (some 50), (some (45, true)), [12, 14, 10], none⟩,
  ⟨.pick (.tmp 45) (.tmp 50) (.con (.v (.bool false))), (some 51), none, [10, 15], none⟩,
  ⟨.mov (.tmp 51), (some 52), none, [16, 10], none⟩,
  ⟨.mov (.tmp 0), (some 53), (some (52, true)), [17], none⟩,
  ⟨.load 1 false (.tmp 4), (some 54), (some (52, true)), [17], none⟩,
  ⟨.addOff 4 (.tmp 1), (some 55), (some (52, true)), [17], none⟩,
  ⟨.load 1 false (.tmp 55), (some 56), (some (52, true)), [20, 17], none⟩,
  ⟨.addOff 3 (.tmp 9), (some 57), (some (52, true)), [17], none⟩,
  ⟨.load 1 false (.tmp 57), (some 58), (some (52, true)), [22, 17], none⟩,
  ⟨.bin .add (.tmp 56) (.tmp 58), (some 59), (some (52, true)), [21, 23, 17], none⟩,
  ⟨.mov (.tmp 8), (some 60), (some (52, true)), [17], none⟩,
  ⟨.callv (.tmp 54) [(.tmp 59), (.tmp 60), (.con .nil0)], (some 61), (some (52, true)), [19, 24, 25, 17, 17], none⟩,
  ⟨.callv (.tmp 53) [(.tmp 61)], (some 62), (some (52, true)), [18, 26, 26, 17], none⟩,
  ⟨.un .not (.tmp 62), (some 63), (some (52, true)), [27, 17], none⟩,
  ⟨.pick (.tmp 52) (.tmp 63) (.con (.v (.bool false))), (some 64), none, [17, 28], none⟩]
def d47r9 : List RO := [
  ⟨.bin .add (.tmp 30) (.con (.v (.int .i64 1))), (some 65), none, [], none⟩,
  ⟨.mov (.tmp 65), (some 30), none, [0], none⟩]
def d47r10 : List RO := [
  ⟨.bin .eql (.tmp 12) (.con (.v (.int .i64 3))), (some 67), none, [], none⟩,
  ⟨.mov (.tmp 67), (some 66), none, [0], none⟩]
def d47r11 : List RO := [
  ⟨.mov (.tmp 0), (some 68), none, [], none⟩,
  ⟨.load 1 false (.tmp 4), (some 69), none, [], none⟩,
  ⟨.addOff 4 (.tmp 1), (some 70), none, [], none⟩,
  ⟨.load 1 false (.tmp 70), (some 71), none, [2], none⟩,
  ⟨.load 1 false (.tmp 2), (some 72), none, [], none⟩,
  ⟨.load 2 true (.tmp 6), (some 73), none, [], none⟩,
  ⟨.addOff 2 (.tmp 1), (some 74), none, [], none⟩,
  ⟨.load 1 false (.tmp 74), (some 75), none, [6], none⟩,
  ⟨.load 1 false (.tmp 2), (some 76), none, [], none⟩,
  ⟨.load 1 false (.tmp 3), (some 77), none, [], none⟩,
  ⟨.call 37 [(.tmp 73), (.tmp 75), (.tmp 76), (.tmp 77)], (some 78), none, [5, 7, 8, 9], none⟩,
  ⟨.bslice 1 1 [(.v (.int .i64 0))] [(0, 1, (.tmp 78))], (some 79), none, [10], none⟩,
  ⟨.callv (.tmp 69) [(.tmp 71), (.tmp 72), (.tmp 79)], (some 80), none, [1, 3, 4, 11, 10], none⟩,
  ⟨.callv (.tmp 68) [(.tmp 80)], (some 81), none, [0, 12, 12], none⟩]
def d47r12 : List RO := [
  ⟨.bin .eql (.tmp 12) (.con (.v (.int .i64 4))), (some 83), none, [], none⟩,
  ⟨.mov (.tmp 83), (some 82), none, [0], none⟩]
def d47r13 : List RO := [
  ⟨.load 1 false (.tmp 2), (some 84), none, [], none⟩,
  ⟨.mov (.tmp 84), (some 10), none, [0, 0], none⟩]
def d47r14 : List RO := [
  ⟨.mov (.tmp 10), (some 85), none, [], none⟩,
  ⟨.load 1 false (.tmp 3), (some 86), none, [], none⟩,
  ⟨.bin .leq (.tmp 85) (.tmp 86), (some 87), none, [0, 1], none⟩]
def d47r15 : List RO := [
  ⟨.mov (.tmp 0), (some 90), none, [], none⟩,
  ⟨.load 1 false (.tmp 4), (some 91), none, [], none⟩,
  ⟨.addOff 4 (.tmp 1), (some 92), none, [], none⟩,
  ⟨.load 1 false (.tmp 92), (some 93), none, [2], none⟩,
  ⟨.mov (.tmp 10), (some 94), none, [], none⟩,
  ⟨.load 2 true (.tmp 6), (some 95), none, [], none⟩,
  ⟨.addOff 2 (.tmp 1), (some 96), none, [], none⟩,
  ⟨.load 1 false (.tmp 96), (some 97), none, [6], none⟩,
  ⟨.load 1 false (.tmp 2), (some 98), none, [], none⟩,
  ⟨.mov (.tmp 10), (some 99), none, [], none⟩,
  ⟨.call 37 [(.tmp 95), (.tmp 97), (.tmp 98), (.tmp 99)], (some 100), none, [5, 7, 8, 9], none⟩,
  ⟨.load 2 true (.tmp 6), (some 101), none, [], none⟩,
  ⟨.addOff 3 (.tmp 1), (some 102), none, [], none⟩,
  ⟨.load 1 false (.tmp 102), (some 103), none, [12], none⟩,
  ⟨.mov (.tmp 10), (some 104), none, [], none⟩,
  ⟨.load 1 false (.tmp 3), (some 105), none, [], none⟩,
  ⟨.call 37 [(.tmp 101), (.tmp 103), (.tmp 104), (.tmp 105)], (some 106), none, [11, 13, 14, 15, 10], none⟩,
  ⟨.bslice 2 1 [(.v (.int .i64 0)), (.v (.int .i64 0))] [(0, 1, (.tmp 100)), (1, 1, (.tmp 106))], (some 107), none, [10, 16], none⟩,
  ⟨.callv (.tmp 91) [(.tmp 93), (.tmp 94), (.tmp 107)], (some 108), none, [1, 3, 4, 17, 16], none⟩,
  ⟨.callv (.tmp 90) [(.tmp 108)], (some 109), none, [0, 18, 18], none⟩,
  ⟨.un .not (.tmp 109), (some 110), none, [19], none⟩]
def d47r16 : List RO := [
  ⟨.mov (.tmp 10), (some 88), none, [], none⟩,
  ⟨.bin .add (.tmp 88) (.con (.v (.int .i64 1))), (some 89), none, [0], none⟩,
  ⟨.mov (.tmp 89), (some 10), none, [1, 0, 1], none⟩]
def d47 : DC := (.seq (.region false d47r0)
  (.block 0 (.seq (.region false d47r1)
  (.cond (.tmp 13) (.seq (.region false d47r2)
  (.cond (.tmp 17) (.region false d47r3)
  .skip))
  (.seq (.region false d47r4)
  (.cond (.tmp 25) (.seq (.region false d47r5)
  (.block 1 (.loop (.seq (.region false d47r6)
  (.seq (.cond (.tmp 31) .skip
  (.exit 1))
  (.seq (.block 2 (.seq (.region false d47r7)
  (.seq (.region false d47r8)
  (.cond (.tmp 64) .ret
  .skip))))
  (.region false d47r9)))))))
  (.seq (.region false d47r10)
  (.cond (.tmp 66) (.region true d47r11)
  (.seq (.region false d47r12)
  (.cond (.tmp 82) (.seq (.region false d47r13)
  (.block 3 (.loop (.seq (.seq (.region false d47r14)
  (.cond (.tmp 87) .skip
  (.exit 3)))
  (.seq (.block 4 (.seq (.region true d47r15)
  (.cond (.tmp 110) .ret
  .skip)))
  (.region false d47r16))))))
  .skip))))))))))
def d47res : List DRes := []
theorem c47 : CodeOf Try.prog 47 111 d47 d47res := ⟨Try.f47, by kernel_rfl, by kernel_rfl, by kernel_rfl, by kernel_rfl, by kernel_rfl⟩
-- emendate/items.Hypergraph$1
def d36r0 : List RO := [
  ⟨.box (.tmp 0), (some 2), none, [], none⟩,
  ⟨.box (.tmp 1), (some 3), none, [], none⟩,
  ⟨.mov (.con (.v (.int .i64 0))), (some 4), none, [], none⟩]
def d36r1 : List RO := [
  ⟨.addOff 0 (.tmp 2), (some 5), none, [], none⟩,
  ⟨.load 1 false (.tmp 5), (some 6), none, [0], none⟩,
  ⟨.addOff 0 (.tmp 3), (some 7), none, [], none⟩,
  ⟨.load 1 false (.tmp 7), (some 8), none, [2], none⟩,
  ⟨.bin .sub (.tmp 6) (.tmp 8), (some 9), none, [1, 3], none⟩,
  ⟨.mov (.tmp 9), (some 4), none, [4, 0, 1, 2, 3, 4], none⟩]
def d36 : DC := (.seq (.region false d36r0)
  (.seq (.region false d36r1)
  .ret))
def d36res : List DRes := [.slot 4]
theorem c36 : CodeOf Try.prog 36 10 d36 d36res := ⟨Try.f36, by kernel_rfl, by kernel_rfl, by kernel_rfl, by kernel_rfl, by kernel_rfl⟩
-- slices.SortStableFunc[[]emendate/api.Hyperedge,emendate/api.Hyperedge]
def d35r0 : List RO := [
  ⟨.mov (.tmp 0), (some 4), none, [], none⟩,
  ⟨.mov (.tmp 0), (some 5), none, [], none⟩,
  ⟨.len (.tmp 5), (some 6), none, [1], none⟩,
  ⟨.mov (.tmp 1), (some 7), none, [], none⟩,
  ⟨.call 48 [(.tmp 4), (.tmp 6), (.tmp 7)], (some 8), none, [0, 2, 3], none⟩]
def d35r0S : List RO := [
  ⟨.mov (.tmp 0), (some 4), none, [], none⟩,
  ⟨.mov (.tmp 0), (some 5), none, [], none⟩,
  ⟨.len (.tmp 5), (some 6), none, [1], none⟩,
  ⟨.mov (.tmp 1), (some 7), none, [], none⟩,
  ⟨.callS 48 [(.tmp 4), (.tmp 6), (.tmp 7)], (some 8), none, [0, 2, 3], none⟩]
def d35 : DC := (.region false d35r0)
def d35res : List DRes := []
theorem c35 : CodeOf Try.prog 35 9 d35 d35res := ⟨Try.f35, by kernel_rfl, by kernel_rfl, by kernel_rfl, by kernel_rfl, by kernel_rfl⟩
-- slices.stableCmpFunc[emendate/api.Hyperedge]
def d48r0 : List RO := [
  ⟨.mov (.con (.v (.int .i64 20))), (some 6), none, [], none⟩]
def d48r1 : List RO := [
  ⟨.mov (.tmp 6), (some 10), none, [], none⟩,
  ⟨.mov (.con (.v (.int .i64 0))), (some 7), none, [], none⟩,
  ⟨.mov (.tmp 10), (some 8), none, [0, 1, 0, 1], none⟩]
def d48r2 : List RO := [
  ⟨.mov (.tmp 8), (some 11), none, [], none⟩,
  ⟨.mov (.tmp 1), (some 12), none, [], none⟩,
  ⟨.bin .leq (.tmp 11) (.tmp 12), (some 13), none, [0, 1], none⟩]
def d48r3 : List RO := [
  ⟨.mov (.tmp 0), (some 14), none, [], none⟩,
  ⟨.mov (.tmp 7), (some 15), none, [], none⟩,
  ⟨.mov (.tmp 8), (some 16), none, [], none⟩,
  ⟨.mov (.tmp 2), (some 17), none, [], none⟩,
  ⟨.call 49 [(.tmp 14), (.tmp 15), (.tmp 16), (.tmp 17)], (some 18), none, [0, 1, 2, 3], none⟩]
def d48r3S : List RO := [
  ⟨.mov (.tmp 0), (some 14), none, [], none⟩,
  ⟨.mov (.tmp 7), (some 15), none, [], none⟩,
  ⟨.mov (.tmp 8), (some 16), none, [], none⟩,
  ⟨.mov (.tmp 2), (some 17), none, [], none⟩,
  ⟨.callS 49 [(.tmp 14), (.tmp 15), (.tmp 16), (.tmp 17)], (some 18), none, [0, 1, 2, 3], none⟩]
def d48r4 : List RO := [
  ⟨.mov (.tmp 8), (some 19), none, [], none⟩,
  ⟨.mov (.tmp 19), (some 7), none, [0, 0], none⟩]
def d48r5 : List RO := [
  ⟨.mov (.tmp 8), (some 20), none, [], none⟩,
  ⟨.mov (.tmp 6), (some 21), none, [], none⟩,
  ⟨.bin .add (.tmp 20) (.tmp 21), (some 22), none, [0, 1], none⟩,
  ⟨.mov (.tmp 22), (some 8), none, [2, 0, 1, 2], none⟩]
def d48r6 : List RO := [
  ⟨.mov (.tmp 0), (some 23), none, [], none⟩,
  ⟨.mov (.tmp 7), (some 24), none, [], none⟩,
  ⟨.mov (.tmp 1), (some 25), none, [], none⟩,
  ⟨.mov (.tmp 2), (some 26), none, [], none⟩,
  ⟨.call 49 [(.tmp 23), (.tmp 24), (.tmp 25), (.tmp 26)], (some 27), none, [0, 1, 2, 3], none⟩]
def d48r6S : List RO := [
  ⟨.mov (.tmp 0), (some 23), none, [], none⟩,
  ⟨.mov (.tmp 7), (some 24), none, [], none⟩,
  ⟨.mov (.tmp 1), (some 25), none, [], none⟩,
  ⟨.mov (.tmp 2), (some 26), none, [], none⟩,
  ⟨.callS 49 [(.tmp 23), (.tmp 24), (.tmp 25), (.tmp 26)], (some 27), none, [0, 1, 2, 3], none⟩]
def d48r7 : List RO := [
  ⟨.mov (.tmp 6), (some 28), none, [], none⟩,
  ⟨.mov (.tmp 1), (some 29), none, [], none⟩,
  ⟨.bin .lss (.tmp 28) (.tmp 29), (some 30), none, [0, 1], none⟩]
def d48r8 : List RO := [
  ⟨.mov (.tmp 6), (some 31), none, [], none⟩,
  ⟨.bin .mul (.con (.v (.int .i64 2))) (.tmp 31), (some 32), none, [0], none⟩,
  ⟨.mov (.con (.v (.int .i64 0))), (some 7), none, [], none⟩,
  ⟨.mov (.tmp 32), (some 8), none, [1, 2, 0, 1, 2], none⟩]
def d48r9 : List RO := [
  ⟨.mov (.tmp 8), (some 33), none, [], none⟩,
  ⟨.mov (.tmp 1), (some 34), none, [], none⟩,
  ⟨.bin .leq (.tmp 33) (.tmp 34), (some 35), none, [0, 1], none⟩]
def d48r10 : List RO := [
  ⟨.mov (.tmp 0), (some 36), none, [], none⟩,
  ⟨.mov (.tmp 7), (some 37), none, [], none⟩,
  ⟨.mov (.tmp 7), (some 38), none, [], none⟩,
  ⟨.mov (.tmp 6), (some 39), none, [], none⟩,
  ⟨.bin .add (.tmp 38) (.tmp 39), (some 40), none, [2, 3], none⟩,
  ⟨.mov (.tmp 8), (some 41), none, [], none⟩,
  ⟨.mov (.tmp 2), (some 42), none, [], none⟩,
  ⟨.call 50 [(.tmp 36), (.tmp 37), (.tmp 40), (.tmp 41), (.tmp 42)], (some 43), none, [0, 1, 4, 5, 6], none⟩]
def d48r10S : List RO := [
  ⟨.mov (.tmp 0), (some 36), none, [], none⟩,
  ⟨.mov (.tmp 7), (some 37), none, [], none⟩,
  ⟨.mov (.tmp 7), (some 38), none, [], none⟩,
  ⟨.mov (.tmp 6), (some 39), none, [], none⟩,
  ⟨.bin .add (.tmp 38) (.tmp 39), (some 40), none, [2, 3], none⟩,
  ⟨.mov (.tmp 8), (some 41), none, [], none⟩,
  ⟨.mov (.tmp 2), (some 42), none, [], none⟩,
  ⟨.callS 50 [(.tmp 36), (.tmp 37), (.tmp 40), (.tmp 41), (.tmp 42)], (some 43), none, [0, 1, 4, 5, 6], none⟩]
def d48r11 : List RO := [
  ⟨.mov (.tmp 8), (some 44), none, [], none⟩,
  ⟨.mov (.tmp 44), (some 7), none, [0, 0], none⟩]
def d48r12 : List RO := [
  ⟨.mov (.tmp 8), (some 45), none, [], none⟩,
  ⟨.mov (.tmp 6), (some 46), none, [], none⟩,
  ⟨.bin .mul (.con (.v (.int .i64 2))) (.tmp 46), (some 47), none, [1], none⟩,
  ⟨.bin .add (.tmp 45) (.tmp 47), (some 48), none, [0, 2], none⟩,
  ⟨.mov (.tmp 48), (some 8), none, [3, 0, 1, 2, 3], none⟩]
def d48r13 : List RO := [
  ⟨.mov (.tmp 7), (some 49), none, [], none⟩,
  ⟨.mov (.tmp 6), (some 50), none, [], none⟩,
  ⟨.bin .add (.tmp 49) (.tmp 50), (some 51), none, [0, 1], none⟩,
  ⟨.mov (.tmp 51), (some 9), none, [2, 0, 1, 2], none⟩]
def d48r14 : List RO := [
  ⟨.mov (.tmp 9), (some 52), none, [], none⟩,
  ⟨.mov (.tmp 1), (some 53), none, [], none⟩,
  ⟨.bin .lss (.tmp 52) (.tmp 53), (some 54), none, [0, 1], none⟩]
def d48r15 : List RO := [
  ⟨.mov (.tmp 0), (some 55), none, [], none⟩,
  ⟨.mov (.tmp 7), (some 56), none, [], none⟩,
  ⟨.mov (.tmp 9), (some 57), none, [], none⟩,
  ⟨.mov (.tmp 1), (some 58), none, [], none⟩,
  ⟨.mov (.tmp 2), (some 59), none, [], none⟩,
  ⟨.call 50 [(.tmp 55), (.tmp 56), (.tmp 57), (.tmp 58), (.tmp 59)], (some 60), none, [0, 1, 2, 3, 4], none⟩]
def d48r15S : List RO := [
  ⟨.mov (.tmp 0), (some 55), none, [], none⟩,
  ⟨.mov (.tmp 7), (some 56), none, [], none⟩,
  ⟨.mov (.tmp 9), (some 57), none, [], none⟩,
  ⟨.mov (.tmp 1), (some 58), none, [], none⟩,
  ⟨.mov (.tmp 2), (some 59), none, [], none⟩,
  ⟨.callS 50 [(.tmp 55), (.tmp 56), (.tmp 57), (.tmp 58), (.tmp 59)], (some 60), none, [0, 1, 2, 3, 4], none⟩]
def d48r16 : List RO := [
  ⟨.mov (.tmp 6), (some 61), none, [], none⟩,
  ⟨.bin .mul (.tmp 61) (.con (.v (.int .i64 2))), (some 62), none, [0], none⟩,
  ⟨.mov (.tmp 62), (some 6), none, [1, 0, 1], none⟩]
def d48 : DC := (.seq (.region false d48r0)
  (.seq (.region false d48r1)
  (.seq (.block 0 (.loop (.seq (.seq (.region false d48r2)
  (.cond (.tmp 13) .skip
  (.exit 0)))
  (.block 1 (.seq (.region false d48r3)
  (.seq (.region false d48r4)
  (.region false d48r5)))))))
  (.seq (.region false d48r6)
  (.block 2 (.loop (.seq (.seq (.region false d48r7)
  (.cond (.tmp 30) .skip
  (.exit 2)))
  (.block 3 (.seq (.region false d48r8)
  (.seq (.block 4 (.loop (.seq (.seq (.region false d48r9)
  (.cond (.tmp 35) .skip
  (.exit 4)))
  (.block 5 (.seq (.region false d48r10)
  (.seq (.region false d48r11)
  (.region false d48r12)))))))
  (.seq (.seq (.region false d48r13)
  (.seq (.region false d48r14)
  (.cond (.tmp 54) (.region false d48r15)
  .skip)))
  (.region false d48r16))))))))))))
def d48res : List DRes := []
theorem c48 : CodeOf Try.prog 48 63 d48 d48res := ⟨Try.f48, by kernel_rfl, by kernel_rfl, by kernel_rfl, by kernel_rfl, by kernel_rfl⟩
-- slices.insertionSortCmpFunc[emendate/api.Hyperedge]
def d49r0 : List RO := [
  ⟨.mov (.tmp 1), (some 10), none, [], none⟩,
  ⟨.bin .add (.tmp 10) (.con (.v (.int .i64 1))), (some 11), none, [0], none⟩,
  ⟨.mov (.tmp 11), (some 8), none, [1, 0, 1], none⟩]
def d49r1 : List RO := [
  ⟨.mov (.tmp 8), (some 12), none, [], none⟩,
  ⟨.mov (.tmp 2), (some 13), none, [], none⟩,
  ⟨.bin .lss (.tmp 12) (.tmp 13), (some 14), none, [0, 1], none⟩]
def d49r2 : List RO := [
  ⟨.mov (.tmp 8), (some 17), none, [], none⟩,
  ⟨.mov (.tmp 17), (some 9), none, [0, 0], none⟩]
def d49r3 : List RO := [
  ⟨.mov (.tmp 9), (some 18), none, [], none⟩,
  ⟨.mov (.tmp 1), (some 19), none, [], none⟩,
  ⟨.bin .gtr (.tmp 18) (.tmp 19), (some 20), none, [0, 1], none⟩,
  ⟨.mov (.tmp 20), (some 21), none, [2], none⟩,
  ⟨.mov (.tmp 3), (some 22), (some (21, true)), [3], none⟩,
  ⟨.mov (.tmp 0), (some 23), (some (21, true)), [3], none⟩,
  ⟨.mov (.tmp 9), (some 24), (some (21, true)), [3], none⟩,
  ⟨.idxAddr 5 (.tmp 23) (.tmp 24), (some 25), (some (21, true)), [5, 6, 3], none⟩,
  ⟨.load 5 true (.tmp 25), (some 26), (some (21, true)), [7, 3], none⟩,
  ⟨.mov (.tmp 0), (some 27), (some (21, true)), [3], none⟩,
  ⟨.mov (.tmp 9), (some 28), (some (21, true)), [3], none⟩,
  ⟨.bin .sub (.tmp 28) (.con (.v (.int .i64 1))), (some 29), (some (21, true)), [10, 3], none⟩,
  ⟨.idxAddr 5 (.tmp 27) (.tmp 29), (some 30), (some (21, true)), [9, 11, 3], none⟩,
  ⟨.load 5 true (.tmp 30), (some 31), (some (21, true)), [12, 3], none⟩,
  ⟨.callv (.tmp 22) [(.tmp 26), (.tmp 31)], (some 32), (some (21, true)), [4, 8, 13, 3, 3], none⟩,
  ⟨.bin .lss (.tmp 32) (.con (.v (.int .i64 0))), (some 33), (some (21, true)), [14, 3], none⟩,
  ⟨.pick (.tmp 21) (.tmp 33) (.con (.v (.bool false))), (some 34), none, [3, 15], none⟩]
def d49r4 : List RO := [
  ⟨.mov (.tmp 0), (some 37), none, [], none⟩,
  ⟨.mov (.tmp 9), (some 38), none, [], none⟩,
  ⟨.mov (.tmp 0), (some 39), none, [], none⟩,
  ⟨.mov (.tmp 9), (some 40), none, [], none⟩,
  ⟨.bin .sub (.tmp 40) (.con (.v (.int .i64 1))), (some 41), none, [3], none⟩,
  ⟨.mov (.tmp 0), (some 42), none, [], none⟩,
  ⟨.mov (.tmp 9), (some 43), none, [], none⟩,
  ⟨.bin .sub (.tmp 43) (.con (.v (.int .i64 1))), (some 44), none, [6], none⟩,
  ⟨.idxAddr 5 (.tmp 42) (.tmp 44), (some 45), none, [5, 7], none⟩,
  ⟨.load 5 true (.tmp 45), (some 46), none, [8], none⟩,
  ⟨.mov (.tmp 0), (some 47), none, [], none⟩,
  ⟨.mov (.tmp 9), (some 48), none, [], none⟩,
  ⟨.idxAddr 5 (.tmp 47) (.tmp 48), (some 49), none, [10, 11], none⟩,
  ⟨.load 5 true (.tmp 49), (some 50), none, [12], none⟩,
  ⟨.idxAddr 5 (.tmp 37) (.tmp 38), (some 51), none, [0, 1, 0, 1, 5, 6, 7, 8, 9, 13], none⟩,
  ⟨.store 5 (.tmp 51) (.tmp 46), none, none, [14, 9, 0, 1, 5, 6, 7, 8, 9, 13], none⟩,
  ⟨.idxAddr 5 (.tmp 39) (.tmp 41), (some 52), none, [2, 4, 0, 1, 2, 3, 4, 5, 6, 7, 8, 9, 10, 11, 12, 13, 14, 15], none⟩,
  ⟨.store 5 (.tmp 52) (.tmp 50), none, none, [16, 13, 15, 0, 1, 2, 3, 4, 5, 6, 7, 8, 9, 10, 11, 12, 13, 14, 15], none⟩]
def d49r5 : List RO := [
  ⟨.mov (.tmp 9), (some 35), none, [], none⟩,
  ⟨.bin .sub (.tmp 35) (.con (.v (.int .i64 1))), (some 36), none, [0], none⟩,
  ⟨.mov (.tmp 36), (some 9), none, [1, 0, 1], none⟩]
def d49r6 : List RO := [
  ⟨.mov (.tmp 8), (some 15), none, [], none⟩,
  ⟨.bin .add (.tmp 15) (.con (.v (.int .i64 1))), (some 16), none, [0], none⟩,
  ⟨.mov (.tmp 16), (some 8), none, [1, 0, 1], none⟩]
def d49 : DC := (.seq (.region false d49r0)
  (.block 0 (.loop (.seq (.seq (.region false d49r1)
  (.cond (.tmp 14) .skip
  (.exit 0)))
  (.seq (.block 1 (.seq (.region false d49r2)
  (.block 2 (.loop (.seq (.seq (.region true d49r3)
  (.cond (.tmp 34) .skip
  (.exit 2)))
  (.seq (.block 3 (.region true d49r4))
  (.region false d49r5)))))))
  (.region false d49r6))))))
def d49res : List DRes := []
theorem c49 : CodeOf Try.prog 49 53 d49 d49res := ⟨Try.f49, by kernel_rfl, by kernel_rfl, by kernel_rfl, by kernel_rfl, by kernel_rfl⟩
-- slices.symMergeCmpFunc[emendate/api.Hyperedge]
def d50r0 : List RO := [
  ⟨.mov (.tmp 2), (some 25), none, [], none⟩,
  ⟨.mov (.tmp 1), (some 26), none, [], none⟩,
  ⟨.bin .sub (.tmp 25) (.tmp 26), (some 27), none, [0, 1], none⟩,
  ⟨.bin .eql (.tmp 27) (.con (.v (.int .i64 1))), (some 28), none, [2], none⟩]
def d50r1 : List RO := [
  ⟨.mov (.tmp 2), (some 29), none, [], none⟩,
  ⟨.mov (.tmp 29), (some 10), none, [0, 0], none⟩]
def d50r2 : List RO := [
  ⟨.mov (.tmp 3), (some 30), none, [], none⟩,
  ⟨.mov (.tmp 30), (some 11), none, [0, 0], none⟩]
def d50r3 : List RO := [
  ⟨.mov (.tmp 10), (some 31), none, [], none⟩,
  ⟨.mov (.tmp 11), (some 32), none, [], none⟩,
  ⟨.bin .lss (.tmp 31) (.tmp 32), (some 33), none, [0, 1], none⟩]
def d50r4 : List RO := [
  ⟨.mov (.tmp 10), (some 34), none, [], none⟩,
  ⟨.mov (.tmp 11), (some 35), none, [], none⟩,
  ⟨.bin .add (.tmp 34) (.tmp 35), (some 36), none, [0, 1], none⟩,
  ⟨.conv .u64 (.tmp 36), (some 37), none, [2], none⟩,
  ⟨.bin .shr (.tmp 37) (.con (.v (.int .u64 1))), (some 38), none, [3], none⟩,
  ⟨.conv .i64 (.tmp 38), (some 39), none, [4], none⟩,
  ⟨.mov (.tmp 39), (some 12), none, [5, 0, 1, 2, 3, 4, 5], none⟩]
def d50r5 : List RO := [
  ⟨.mov (.tmp 4), (some 40), none, [], none⟩,
  ⟨.mov (.tmp 0), (some 41), none, [], none⟩,
  ⟨.mov (.tmp 12), (some 42), none, [], none⟩,
  ⟨.idxAddr 5 (.tmp 41) (.tmp 42), (some 43), none, [1, 2], none⟩,
  ⟨.load 5 true (.tmp 43), (some 44), none, [3], none⟩,
  ⟨.mov (.tmp 0), (some 45), none, [], none⟩,
  ⟨.mov (.tmp 1), (some 46), none, [], none⟩,
  ⟨.idxAddr 5 (.tmp 45) (.tmp 46), (some 47), none, [5, 6], none⟩,
  ⟨.load 5 true (.tmp 47), (some 48), none, [7], none⟩,
  ⟨.callv (.tmp 40) [(.tmp 44), (.tmp 48)], (some 49), none, [0, 4, 8], none⟩,
  ⟨.bin .lss (.tmp 49) (.con (.v (.int .i64 0))), (some 50), none, [9], none⟩]
def d50r6 : List RO := [
  ⟨.mov (.tmp 12), (some 51), none, [], none⟩,
  ⟨.bin .add (.tmp 51) (.con (.v (.int .i64 1))), (some 52), none, [0], none⟩,
  ⟨.mov (.tmp 52), (some 10), none, [1, 0, 1], none⟩]
def d50r7 : List RO := [
  ⟨.mov (.tmp 12), (some 53), none, [], none⟩,
  ⟨.mov (.tmp 53), (some 11), none, [0, 0], none⟩]
def d50r8 : List RO := [
  ⟨.mov (.tmp 1), (some 54), none, [], none⟩,
  ⟨.mov (.tmp 54), (some 13), none, [0, 0], none⟩]
def d50r9 : List RO := [
  ⟨.mov (.tmp 13), (some 55), none, [], none⟩,
  ⟨.mov (.tmp 10), (some 56), none, [], none⟩,
  ⟨.bin .sub (.tmp 56) (.con (.v (.int .i64 1))), (some 57), none, [1], none⟩,
  ⟨.bin .lss (.tmp 55) (.tmp 57), (some 58), none, [0, 2], none⟩]
def d50r10 : List RO := [
  ⟨.mov (.tmp 0), (some 61), none, [], none⟩,
  ⟨.mov (.tmp 13), (some 62), none, [], none⟩,
  ⟨.mov (.tmp 0), (some 63), none, [], none⟩,
  ⟨.mov (.tmp 13), (some 64), none, [], none⟩,
  ⟨.bin .add (.tmp 64) (.con (.v (.int .i64 1))), (some 65), none, [3], none⟩,
  ⟨.mov (.tmp 0), (some 66), none, [], none⟩,
  ⟨.mov (.tmp 13), (some 67), none, [], none⟩,
  ⟨.bin .add (.tmp 67) (.con (.v (.int .i64 1))), (some 68), none, [6], none⟩,
  ⟨.idxAddr 5 (.tmp 66) (.tmp 68), (some 69), none, [5, 7], none⟩,
  ⟨.load 5 true (.tmp 69), (some 70), none, [8], none⟩,
  ⟨.mov (.tmp 0), (some 71), none, [], none⟩,
  ⟨.mov (.tmp 13), (some 72), none, [], none⟩,
  ⟨.idxAddr 5 (.tmp 71) (.tmp 72), (some 73), none, [10, 11], none⟩,
  ⟨.load 5 true (.tmp 73), (some 74), none, [12], none⟩,
  ⟨.idxAddr 5 (.tmp 61) (.tmp 62), (some 75), none, [0, 1, 0, 1, 5, 6, 7, 8, 9, 13], none⟩,
  ⟨.store 5 (.tmp 75) (.tmp 70), none, none, [14, 9, 0, 1, 5, 6, 7, 8, 9, 13], none⟩,
  ⟨.idxAddr 5 (.tmp 63) (.tmp 65), (some 76), none, [2, 4, 0, 1, 2, 3, 4, 5, 6, 7, 8, 9, 10, 11, 12, 13, 14, 15], none⟩,
  ⟨.store 5 (.tmp 76) (.tmp 74), none, none, [16, 13, 15, 0, 1, 2, 3, 4, 5, 6, 7, 8, 9, 10, 11, 12, 13, 14, 15], none⟩]
def d50r11 : List RO := [
  ⟨.mov (.tmp 13), (some 59), none, [], none⟩,
  ⟨.bin .add (.tmp 59) (.con (.v (.int .i64 1))), (some 60), none, [0], none⟩,
  ⟨.mov (.tmp 60), (some 13), none, [1, 0, 1], none⟩]
def d50r12 : List RO := [
  ⟨.mov (.tmp 3), (some 77), none, [], none⟩,
  ⟨.mov (.tmp 2), (some 78), none, [], none⟩,
  ⟨.bin .sub (.tmp 77) (.tmp 78), (some 79), none, [0, 1], none⟩,
  ⟨.bin .eql (.tmp 79) (.con (.v (.int .i64 1))), (some 80), none, [2], none⟩]
def d50r13 : List RO := [
  ⟨.mov (.tmp 1), (some 81), none, [], none⟩,
  ⟨.mov (.tmp 81), (some 14), none, [0, 0], none⟩]
def d50r14 : List RO := [
  ⟨.mov (.tmp 2), (some 82), none, [], none⟩,
  ⟨.mov (.tmp 82), (some 15), none, [0, 0], none⟩]
def d50r15 : List RO := [
  ⟨.mov (.tmp 14), (some 83), none, [], none⟩,
  ⟨.mov (.tmp 15), (some 84), none, [], none⟩,
  ⟨.bin .lss (.tmp 83) (.tmp 84), (some 85), none, [0, 1], none⟩]
def d50r16 : List RO := [
  ⟨.mov (.tmp 14), (some 86), none, [], none⟩,
  ⟨.mov (.tmp 15), (some 87), none, [], none⟩,
  ⟨.bin .add (.tmp 86) (.tmp 87), (some 88), none, [0, 1], none⟩,
  ⟨.conv .u64 (.tmp 88), (some 89), none, [2], none⟩,
  ⟨.bin .shr (.tmp 89) (.con (.v (.int .u64 1))), (some 90), none, [3], none⟩,
  ⟨.conv .i64 (.tmp 90), (some 91), none, [4], none⟩,
  ⟨.mov (.tmp 91), (some 16), none, [5, 0, 1, 2, 3, 4, 5], none⟩]
def d50r17 : List RO := [
  ⟨.mov (.tmp 4), (some 92), none, [], none⟩,
  ⟨.mov (.tmp 0), (some 93), none, [], none⟩,
  ⟨.mov (.tmp 2), (some 94), none, [], none⟩,
  ⟨.idxAddr 5 (.tmp 93) (.tmp 94), (some 95), none, [1, 2], none⟩,
  ⟨.load 5 true (.tmp 95), (some 96), none, [3], none⟩,
  ⟨.mov (.tmp 0), (some 97), none, [], none⟩,
  ⟨.mov (.tmp 16), (some 98), none, [], none⟩,
  ⟨.idxAddr 5 (.tmp 97) (.tmp 98), (some 99), none, [5, 6], none⟩,
  ⟨.load 5 true (.tmp 99), (some 100), none, [7], none⟩,
  ⟨.callv (.tmp 92) [(.tmp 96), (.tmp 100)], (some 101), none, [0, 4, 8], none⟩,
  ⟨.bin .lss (.tmp 101) (.con (.v (.int .i64 0))), (some 102), none, [9], none⟩,
  ⟨.un .not (.tmp 102), (some 103), none, [10], none⟩]
def d50r18 : List RO := [
  ⟨.mov (.tmp 16), (some 104), none, [], none⟩,
  ⟨.bin .add (.tmp 104) (.con (.v (.int .i64 1))), (some 105), none, [0], none⟩,
  ⟨.mov (.tmp 105), (some 14), none, [1, 0, 1], none⟩]
def d50r19 : List RO := [
  ⟨.mov (.tmp 16), (some 106), none, [], none⟩,
  ⟨.mov (.tmp 106), (some 15), none, [0, 0], none⟩]
def d50r20 : List RO := [
  ⟨.mov (.tmp 2), (some 107), none, [], none⟩,
  ⟨.mov (.tmp 107), (some 17), none, [0, 0], none⟩]
def d50r21 : List RO := [
  ⟨.mov (.tmp 17), (some 108), none, [], none⟩,
  ⟨.mov (.tmp 14), (some 109), none, [], none⟩,
  ⟨.bin .gtr (.tmp 108) (.tmp 109), (some 110), none, [0, 1], none⟩]
def d50r22 : List RO := [
  ⟨.mov (.tmp 0), (some 113), none, [], none⟩,
  ⟨.mov (.tmp 17), (some 114), none, [], none⟩,
  ⟨.mov (.tmp 0), (some 115), none, [], none⟩,
  ⟨.mov (.tmp 17), (some 116), none, [], none⟩,
  ⟨.bin .sub (.tmp 116) (.con (.v (.int .i64 1))), (some 117), none, [3], none⟩,
  ⟨.mov (.tmp 0), (some 118), none, [], none⟩,
  ⟨.mov (.tmp 17), (some 119), none, [], none⟩,
  ⟨.bin .sub (.tmp 119) (.con (.v (.int .i64 1))), (some 120), none, [6], none⟩,
  ⟨.idxAddr 5 (.tmp 118) (.tmp 120), (some 121), none, [5, 7], none⟩,
  ⟨.load 5 true (.tmp 121), (some 122), none, [8], none⟩,
  ⟨.mov (.tmp 0), (some 123), none, [], none⟩,
  ⟨.mov (.tmp 17), (some 124), none, [], none⟩,
  ⟨.idxAddr 5 (.tmp 123) (.tmp 124), (some 125), none, [10, 11], none⟩,
  ⟨.load 5 true (.tmp 125), (some 126), none, [12], none⟩,
  ⟨.idxAddr 5 (.tmp 113) (.tmp 114), (some 127), none, [0, 1, 0, 1, 5, 6, 7, 8, 9, 13], none⟩,
  ⟨.store 5 (.tmp 127) (.tmp 122), none, none, [14, 9, 0, 1, 5, 6, 7, 8, 9, 13], none⟩,
  ⟨.idxAddr 5 (.tmp 115) (.tmp 117), (some 128), none, [2, 4, 0, 1, 2, 3, 4, 5, 6, 7, 8, 9, 10, 11, 12, 13, 14, 15], none⟩,
  ⟨.store 5 (.tmp 128) (.tmp 126), none, none, [16, 13, 15, 0, 1, 2, 3, 4, 5, 6, 7, 8, 9, 10, 11, 12, 13, 14, 15], none⟩]
def d50r23 : List RO := [
  ⟨.mov (.tmp 17), (some 111), none, [], none⟩,
  ⟨.bin .sub (.tmp 111) (.con (.v (.int .i64 1))), (some 112), none, [0], none⟩,
  ⟨.mov (.tmp 112), (some 17), none, [1, 0, 1], none⟩]
def d50r24 : List RO := [
  ⟨.mov (.tmp 1), (some 129), none, [], none⟩,
  ⟨.mov (.tmp 3), (some 130), none, [], none⟩,
  ⟨.bin .add (.tmp 129) (.tmp 130), (some 131), none, [0, 1], none⟩,
  ⟨.conv .u64 (.tmp 131), (some 132), none, [2], none⟩,
  ⟨.bin .shr (.tmp 132) (.con (.v (.int .u64 1))), (some 133), none, [3], none⟩,
  ⟨.conv .i64 (.tmp 133), (some 134), none, [4], none⟩,
  ⟨.mov (.tmp 134), (some 18), none, [5, 0, 1, 2, 3, 4, 5], none⟩]
def d50r25 : List RO := [
  ⟨.mov (.tmp 18), (some 135), none, [], none⟩,
  ⟨.mov (.tmp 2), (some 136), none, [], none⟩,
  ⟨.bin .add (.tmp 135) (.tmp 136), (some 137), none, [0, 1], none⟩,
  ⟨.mov (.tmp 137), (some 19), none, [2, 0, 1, 2], none⟩]
def d50r26 : List RO := [
  ⟨.mov (.con (.v (.int .i64 0))), (some 20), none, [], none⟩,
  ⟨.mov (.con (.v (.int .i64 0))), (some 21), none, [0], none⟩]
def d50r27 : List RO := [
  ⟨.mov (.tmp 2), (some 138), none, [], none⟩,
  ⟨.mov (.tmp 18), (some 139), none, [], none⟩,
  ⟨.bin .gtr (.tmp 138) (.tmp 139), (some 140), none, [0, 1], none⟩]
def d50r28 : List RO := [
  ⟨.mov (.tmp 19), (some 141), none, [], none⟩,
  ⟨.mov (.tmp 3), (some 142), none, [], none⟩,
  ⟨.bin .sub (.tmp 141) (.tmp 142), (some 143), none, [0, 1], none⟩,
  ⟨.mov (.tmp 143), (some 20), none, [2, 0, 1, 2], none⟩]
def d50r29 : List RO := [
  ⟨.mov (.tmp 18), (some 144), none, [], none⟩,
  ⟨.mov (.tmp 144), (some 21), none, [0, 0], none⟩]
def d50r30 : List RO := [
  ⟨.mov (.tmp 1), (some 145), none, [], none⟩,
  ⟨.mov (.tmp 145), (some 20), none, [0, 0], none⟩]
def d50r31 : List RO := [
  ⟨.mov (.tmp 2), (some 146), none, [], none⟩,
  ⟨.mov (.tmp 146), (some 21), none, [0, 0], none⟩]
def d50r32 : List RO := [
  ⟨.mov (.tmp 19), (some 147), none, [], none⟩,
  ⟨.bin .sub (.tmp 147) (.con (.v (.int .i64 1))), (some 148), none, [0], none⟩,
  ⟨.mov (.tmp 148), (some 22), none, [1, 0, 1], none⟩]
def d50r33 : List RO := [
  ⟨.mov (.tmp 20), (some 149), none, [], none⟩,
  ⟨.mov (.tmp 21), (some 150), none, [], none⟩,
  ⟨.bin .lss (.tmp 149) (.tmp 150), (some 151), none, [0, 1], none⟩]
def d50r34 : List RO := [
  ⟨.mov (.tmp 20), (some 152), none, [], none⟩,
  ⟨.mov (.tmp 21), (some 153), none, [], none⟩,
  ⟨.bin .add (.tmp 152) (.tmp 153), (some 154), none, [0, 1], none⟩,
  ⟨.conv .u64 (.tmp 154), (some 155), none, [2], none⟩,
  ⟨.bin .shr (.tmp 155) (.con (.v (.int .u64 1))), (some 156), none, [3], none⟩,
  ⟨.conv .i64 (.tmp 156), (some 157), none, [4], none⟩,
  ⟨.mov (.tmp 157), (some 23), none, [5, 0, 1, 2, 3, 4, 5], none⟩]
def d50r35 : List RO := [
  ⟨.mov (.tmp 4), (some 158), none, [], none⟩,
  ⟨.mov (.tmp 0), (some 159), none, [], none⟩,
  ⟨.mov (.tmp 22), (some 160), none, [], none⟩,
  ⟨.mov (.tmp 23), (some 161), none, [], none⟩,
  ⟨.bin .sub (.tmp 160) (.tmp 161), (some 162), none, [2, 3], none⟩,
  ⟨.idxAddr 5 (.tmp 159) (.tmp 162), (some 163), none, [1, 4], none⟩,
  ⟨.load 5 true (.tmp 163), (some 164), none, [5], none⟩,
  ⟨.mov (.tmp 0), (some 165), none, [], none⟩,
  ⟨.mov (.tmp 23), (some 166), none, [], none⟩,
  ⟨.idxAddr 5 (.tmp 165) (.tmp 166), (some 167), none, [7, 8], none⟩,
  ⟨.load 5 true (.tmp 167), (some 168), none, [9], none⟩,
  ⟨.callv (.tmp 158) [(.tmp 164), (.tmp 168)], (some 169), none, [0, 6, 10], none⟩,
  ⟨.bin .lss (.tmp 169) (.con (.v (.int .i64 0))), (some 170), none, [11], none⟩,
  ⟨.un .not (.tmp 170), (some 171), none, [12], none⟩]
def d50r36 : List RO := [
  ⟨.mov (.tmp 23), (some 172), none, [], none⟩,
  ⟨.bin .add (.tmp 172) (.con (.v (.int .i64 1))), (some 173), none, [0], none⟩,
  ⟨.mov (.tmp 173), (some 20), none, [1, 0, 1], none⟩]
def d50r37 : List RO := [
  ⟨.mov (.tmp 23), (some 174), none, [], none⟩,
  ⟨.mov (.tmp 174), (some 21), none, [0, 0], none⟩]
def d50r38 : List RO := [
  ⟨.mov (.tmp 19), (some 175), none, [], none⟩,
  ⟨.mov (.tmp 20), (some 176), none, [], none⟩,
  ⟨.bin .sub (.tmp 175) (.tmp 176), (some 177), none, [0, 1], none⟩,
  ⟨.mov (.tmp 177), (some 24), none, [2, 0, 1, 2], none⟩]
def d50r39 : List RO := [
  ⟨.mov (.tmp 20), (some 178), none, [], none⟩,
  ⟨.mov (.tmp 2), (some 179), none, [], none⟩,
  ⟨.bin .lss (.tmp 178) (.tmp 179), (some 180), none, [0, 1], none⟩,
  ⟨.mov (.tmp 180), (some 181), none, [2], none⟩,
  ⟨.mov (.tmp 2), (some 182), (some (181, true)), [3], none⟩,
  ⟨.mov (.tmp 24), (some 183), (some (181, true)), [3], none⟩,
  ⟨.bin .lss (.tmp 182) (.tmp 183), (some 184), (some (181, true)), [4, 5, 3], none⟩,
  ⟨.pick (.tmp 181) (.tmp 184) (.con (.v (.bool false))), (some 185), none, [3, 6], none⟩]
def d50r40 : List RO := [
  ⟨.mov (.tmp 0), (some 186), none, [], none⟩,
  ⟨.mov (.tmp 20), (some 187), none, [], none⟩,
  ⟨.mov (.tmp 2), (some 188), none, [], none⟩,
  ⟨.mov (.tmp 24), (some 189), none, [], none⟩,
  ⟨.mov (.tmp 4), (some 190), none, [], none⟩,
  ⟨.call 51 [(.tmp 186), (.tmp 187), (.tmp 188), (.tmp 189), (.tmp 190)], (some 191), none, [0, 1, 2, 3, 4], none⟩]
def d50r40S : List RO := [
  ⟨.mov (.tmp 0), (some 186), none, [], none⟩,
  ⟨.mov (.tmp 20), (some 187), none, [], none⟩,
  ⟨.mov (.tmp 2), (some 188), none, [], none⟩,
  ⟨.mov (.tmp 24), (some 189), none, [], none⟩,
  ⟨.mov (.tmp 4), (some 190), none, [], none⟩,
  ⟨.callS 51 [(.tmp 186), (.tmp 187), (.tmp 188), (.tmp 189), (.tmp 190)], (some 191), none, [0, 1, 2, 3, 4], none⟩]
def d50r41 : List RO := [
  ⟨.mov (.tmp 1), (some 192), none, [], none⟩,
  ⟨.mov (.tmp 20), (some 193), none, [], none⟩,
  ⟨.bin .lss (.tmp 192) (.tmp 193), (some 194), none, [0, 1], none⟩,
  ⟨.mov (.tmp 194), (some 195), none, [2], none⟩,
  ⟨.mov (.tmp 20), (some 196), (some (195, true)), [3], none⟩,
  ⟨.mov (.tmp 18), (some 197), (some (195, true)), [3], none⟩,
  ⟨.bin .lss (.tmp 196) (.tmp 197), (some 198), (some (195, true)), [4, 5, 3], none⟩,
  ⟨.pick (.tmp 195) (.tmp 198) (.con (.v (.bool false))), (some 199), none, [3, 6], none⟩]
def d50r42 : List RO := [
  ⟨.mov (.tmp 0), (some 200), none, [], none⟩,
  ⟨.mov (.tmp 1), (some 201), none, [], none⟩,
  ⟨.mov (.tmp 20), (some 202), none, [], none⟩,
  ⟨.mov (.tmp 18), (some 203), none, [], none⟩,
  ⟨.mov (.tmp 4), (some 204), none, [], none⟩,
  ⟨.call 50 [(.tmp 200), (.tmp 201), (.tmp 202), (.tmp 203), (.tmp 204)], (some 205), none, [0, 1, 2, 3, 4], none⟩]
def d50r42S : List RO := [
  ⟨.mov (.tmp 0), (some 200), none, [], none⟩,
  ⟨.mov (.tmp 1), (some 201), none, [], none⟩,
  ⟨.mov (.tmp 20), (some 202), none, [], none⟩,
  ⟨.mov (.tmp 18), (some 203), none, [], none⟩,
  ⟨.mov (.tmp 4), (some 204), none, [], none⟩,
  ⟨.callS 50 [(.tmp 200), (.tmp 201), (.tmp 202), (.tmp 203), (.tmp 204)], (some 205), none, [0, 1, 2, 3, 4], none⟩]
def d50r43 : List RO := [
  ⟨.mov (.tmp 18), (some 206), none, [], none⟩,
  ⟨.mov (.tmp 24), (some 207), none, [], none⟩,
  ⟨.bin .lss (.tmp 206) (.tmp 207), (some 208), none, [0, 1], none⟩,
  ⟨.mov (.tmp 208), (some 209), none, [2], none⟩,
  ⟨.mov (.tmp 24), (some 210), (some (209, true)), [3], none⟩,
  ⟨.mov (.tmp 3), (some 211), (some (209, true)), [3], none⟩,
  ⟨.bin .lss (.tmp 210) (.tmp 211), (some 212), (some (209, true)), [4, 5, 3], none⟩,
  ⟨.pick (.tmp 209) (.tmp 212) (.con (.v (.bool false))), (some 213), none, [3, 6], none⟩]
def d50r44 : List RO := [
  ⟨.mov (.tmp 0), (some 214), none, [], none⟩,
  ⟨.mov (.tmp 18), (some 215), none, [], none⟩,
  ⟨.mov (.tmp 24), (some 216), none, [], none⟩,
  ⟨.mov (.tmp 3), (some 217), none, [], none⟩,
  ⟨.mov (.tmp 4), (some 218), none, [], none⟩,
  ⟨.call 50 [(.tmp 214), (.tmp 215), (.tmp 216), (.tmp 217), (.tmp 218)], (some 219), none, [0, 1, 2, 3, 4], none⟩]
def d50r44S : List RO := [
  ⟨.mov (.tmp 0), (some 214), none, [], none⟩,
  ⟨.mov (.tmp 18), (some 215), none, [], none⟩,
  ⟨.mov (.tmp 24), (some 216), none, [], none⟩,
  ⟨.mov (.tmp 3), (some 217), none, [], none⟩,
  ⟨.mov (.tmp 4), (some 218), none, [], none⟩,
  ⟨.callS 50 [(.tmp 214), (.tmp 215), (.tmp 216), (.tmp 217), (.tmp 218)], (some 219), none, [0, 1, 2, 3, 4], none⟩]
def d50 : DC := (.seq (.seq (.region false d50r0)
  (.cond (.tmp 28) (.seq (.region false d50r1)
  (.seq (.region false d50r2)
  (.seq (.block 0 (.loop (.seq (.seq (.region false d50r3)
  (.cond (.tmp 33) .skip
  (.exit 0)))
  (.block 1 (.seq (.region false d50r4)
  (.seq (.region true d50r5)
  (.cond (.tmp 50) (.region false d50r6)
  (.region false d50r7))))))))
  (.seq (.seq (.region false d50r8)
  (.block 2 (.loop (.seq (.seq (.region false d50r9)
  (.cond (.tmp 58) .skip
  (.exit 2)))
  (.seq (.block 3 (.region true d50r10))
  (.region false d50r11))))))
  .ret))))
  .skip))
  (.seq (.seq (.region false d50r12)
  (.cond (.tmp 80) (.seq (.region false d50r13)
  (.seq (.region false d50r14)
  (.seq (.block 4 (.loop (.seq (.seq (.region false d50r15)
  (.cond (.tmp 85) .skip
  (.exit 4)))
  (.block 5 (.seq (.region false d50r16)
  (.seq (.region true d50r17)
  (.cond (.tmp 103) (.region false d50r18)
  (.region false d50r19))))))))
  (.seq (.seq (.region false d50r20)
  (.block 6 (.loop (.seq (.seq (.region false d50r21)
  (.cond (.tmp 110) .skip
  (.exit 6)))
  (.seq (.block 7 (.region true d50r22))
  (.region false d50r23))))))
  .ret))))
  .skip))
  (.seq (.region false d50r24)
  (.seq (.region false d50r25)
  (.seq (.region false d50r26)
  (.seq (.seq (.region false d50r27)
  (.cond (.tmp 140) (.seq (.region false d50r28)
  (.region false d50r29))
  (.seq (.region false d50r30)
  (.region false d50r31))))
  (.seq (.region false d50r32)
  (.seq (.block 8 (.loop (.seq (.seq (.region false d50r33)
  (.cond (.tmp 151) .skip
  (.exit 8)))
  (.block 9 (.seq (.region false d50r34)
  (.seq (.region true d50r35)
  (.cond (.tmp 171) (.region false d50r36)
  (.region false d50r37))))))))
  (.seq (.region false d50r38)
  (.seq (.seq (.region false d50r39)
  (.cond (.tmp 185) (.region false d50r40)
  .skip))
  (.seq (.seq (.region false d50r41)
  (.cond (.tmp 199) (.region false d50r42)
  .skip))
  (.seq (.region false d50r43)
  (.cond (.tmp 213) (.region false d50r44)
  .skip)))))))))))))
def d50res : List DRes := []
theorem c50 : CodeOf Try.prog 50 220 d50 d50res := ⟨Try.f50, by kernel_rfl, by kernel_rfl, by kernel_rfl, by kernel_rfl, by kernel_rfl⟩
-- slices.rotateCmpFunc[emendate/api.Hyperedge]
def d51r0 : List RO := [
  ⟨.mov (.tmp 2), (some 12), none, [], none⟩,
  ⟨.mov (.tmp 1), (some 13), none, [], none⟩,
  ⟨.bin .sub (.tmp 12) (.tmp 13), (some 14), none, [0, 1], none⟩,
  ⟨.mov (.tmp 14), (some 10), none, [2, 0, 1, 2], none⟩]
def d51r1 : List RO := [
  ⟨.mov (.tmp 3), (some 15), none, [], none⟩,
  ⟨.mov (.tmp 2), (some 16), none, [], none⟩,
  ⟨.bin .sub (.tmp 15) (.tmp 16), (some 17), none, [0, 1], none⟩,
  ⟨.mov (.tmp 17), (some 11), none, [2, 0, 1, 2], none⟩]
def d51r2 : List RO := [
  ⟨.mov (.tmp 10), (some 18), none, [], none⟩,
  ⟨.mov (.tmp 11), (some 19), none, [], none⟩,
  ⟨.bin .neq (.tmp 18) (.tmp 19), (some 20), none, [0, 1], none⟩]
def d51r3 : List RO := [
  ⟨.mov (.tmp 10), (some 21), none, [], none⟩,
  ⟨.mov (.tmp 11), (some 22), none, [], none⟩,
  ⟨.bin .gtr (.tmp 21) (.tmp 22), (some 23), none, [0, 1], none⟩]
def d51r4 : List RO := [
  ⟨.mov (.tmp 0), (some 24), none, [], none⟩,
  ⟨.mov (.tmp 2), (some 25), none, [], none⟩,
  ⟨.mov (.tmp 10), (some 26), none, [], none⟩,
  ⟨.bin .sub (.tmp 25) (.tmp 26), (some 27), none, [1, 2], none⟩,
  ⟨.mov (.tmp 2), (some 28), none, [], none⟩,
  ⟨.mov (.tmp 11), (some 29), none, [], none⟩,
  ⟨.mov (.tmp 4), (some 30), none, [], none⟩,
  ⟨.call 52 [(.tmp 24), (.tmp 27), (.tmp 28), (.tmp 29), (.tmp 30)], (some 31), none, [0, 3, 4, 5, 6], none⟩]
def d51r4S : List RO := [
  ⟨.mov (.tmp 0), (some 24), none, [], none⟩,
  ⟨.mov (.tmp 2), (some 25), none, [], none⟩,
  ⟨.mov (.tmp 10), (some 26), none, [], none⟩,
  ⟨.bin .sub (.tmp 25) (.tmp 26), (some 27), none, [1, 2], none⟩,
  ⟨.mov (.tmp 2), (some 28), none, [], none⟩,
  ⟨.mov (.tmp 11), (some 29), none, [], none⟩,
  ⟨.mov (.tmp 4), (some 30), none, [], none⟩,
  ⟨.callS 52 [(.tmp 24), (.tmp 27), (.tmp 28), (.tmp 29), (.tmp 30)], (some 31), none, [0, 3, 4, 5, 6], none⟩]
def d51r5 : List RO := [
  ⟨.mov (.tmp 10), (some 32), none, [], none⟩,
  ⟨.mov (.tmp 11), (some 33), none, [], none⟩,
  ⟨.bin .sub (.tmp 32) (.tmp 33), (some 34), none, [0, 1], none⟩,
  ⟨.mov (.tmp 34), (some 10), none, [2, 0, 1, 2], none⟩]
def d51r6 : List RO := [
  ⟨.mov (.tmp 0), (some 35), none, [], none⟩,
  ⟨.mov (.tmp 2), (some 36), none, [], none⟩,
  ⟨.mov (.tmp 10), (some 37), none, [], none⟩,
  ⟨.bin .sub (.tmp 36) (.tmp 37), (some 38), none, [1, 2], none⟩,
  ⟨.mov (.tmp 2), (some 39), none, [], none⟩,
  ⟨.mov (.tmp 11), (some 40), none, [], none⟩,
  ⟨.bin .add (.tmp 39) (.tmp 40), (some 41), none, [4, 5], none⟩,
  ⟨.mov (.tmp 10), (some 42), none, [], none⟩,
  ⟨.bin .sub (.tmp 41) (.tmp 42), (some 43), none, [6, 7], none⟩,
  ⟨.mov (.tmp 10), (some 44), none, [], none⟩,
  ⟨.mov (.tmp 4), (some 45), none, [], none⟩,
  ⟨.call 52 [(.tmp 35), (.tmp 38), (.tmp 43), (.tmp 44), (.tmp 45)], (some 46), none, [0, 3, 8, 9, 10], none⟩]
def d51r6S : List RO := [
  ⟨.mov (.tmp 0), (some 35), none, [], none⟩,
  ⟨.mov (.tmp 2), (some 36), none, [], none⟩,
  ⟨.mov (.tmp 10), (some 37), none, [], none⟩,
  ⟨.bin .sub (.tmp 36) (.tmp 37), (some 38), none, [1, 2], none⟩,
  ⟨.mov (.tmp 2), (some 39), none, [], none⟩,
  ⟨.mov (.tmp 11), (some 40), none, [], none⟩,
  ⟨.bin .add (.tmp 39) (.tmp 40), (some 41), none, [4, 5], none⟩,
  ⟨.mov (.tmp 10), (some 42), none, [], none⟩,
  ⟨.bin .sub (.tmp 41) (.tmp 42), (some 43), none, [6, 7], none⟩,
  ⟨.mov (.tmp 10), (some 44), none, [], none⟩,
  ⟨.mov (.tmp 4), (some 45), none, [], none⟩,
  ⟨.callS 52 [(.tmp 35), (.tmp 38), (.tmp 43), (.tmp 44), (.tmp 45)], (some 46), none, [0, 3, 8, 9, 10], none⟩]
def d51r7 : List RO := [
  ⟨.mov (.tmp 11), (some 47), none, [], none⟩,
  ⟨.mov (.tmp 10), (some 48), none, [], none⟩,
  ⟨.bin .sub (.tmp 47) (.tmp 48), (some 49), none, [0, 1], none⟩,
  ⟨.mov (.tmp 49), (some 11), none, [2, 0, 1, 2], none⟩]
def d51r8 : List RO := [
  ⟨.mov (.tmp 0), (some 50), none, [], none⟩,
  ⟨.mov (.tmp 2), (some 51), none, [], none⟩,
  ⟨.mov (.tmp 10), (some 52), none, [], none⟩,
  ⟨.bin .sub (.tmp 51) (.tmp 52), (some 53), none, [1, 2], none⟩,
  ⟨.mov (.tmp 2), (some 54), none, [], none⟩,
  ⟨.mov (.tmp 10), (some 55), none, [], none⟩,
  ⟨.mov (.tmp 4), (some 56), none, [], none⟩,
  ⟨.call 52 [(.tmp 50), (.tmp 53), (.tmp 54), (.tmp 55), (.tmp 56)], (some 57), none, [0, 3, 4, 5, 6], none⟩]
def d51r8S : List RO := [
  ⟨.mov (.tmp 0), (some 50), none, [], none⟩,
  ⟨.mov (.tmp 2), (some 51), none, [], none⟩,
  ⟨.mov (.tmp 10), (some 52), none, [], none⟩,
  ⟨.bin .sub (.tmp 51) (.tmp 52), (some 53), none, [1, 2], none⟩,
  ⟨.mov (.tmp 2), (some 54), none, [], none⟩,
  ⟨.mov (.tmp 10), (some 55), none, [], none⟩,
  ⟨.mov (.tmp 4), (some 56), none, [], none⟩,
  ⟨.callS 52 [(.tmp 50), (.tmp 53), (.tmp 54), (.tmp 55), (.tmp 56)], (some 57), none, [0, 3, 4, 5, 6], none⟩]
def d51 : DC := (.seq (.region false d51r0)
  (.seq (.region false d51r1)
  (.seq (.block 0 (.loop (.seq (.seq (.region false d51r2)
  (.cond (.tmp 20) .skip
  (.exit 0)))
  (.block 1 (.seq (.region false d51r3)
  (.cond (.tmp 23) (.seq (.region false d51r4)
  (.region false d51r5))
  (.seq (.region false d51r6)
  (.region false d51r7))))))))
  (.region false d51r8))))
def d51res : List DRes := []
theorem c51 : CodeOf Try.prog 51 58 d51 d51res := ⟨Try.f51, by kernel_rfl, by kernel_rfl, by kernel_rfl, by kernel_rfl, by kernel_rfl⟩
-- slices.swapRangeCmpFunc[emendate/api.Hyperedge]
def d52r0 : List RO := [
  ⟨.mov (.con (.v (.int .i64 0))), (some 10), none, [], none⟩]
def d52r1 : List RO := [
  ⟨.mov (.tmp 10), (some 11), none, [], none⟩,
  ⟨.mov (.tmp 3), (some 12), none, [], none⟩,
  ⟨.bin .lss (.tmp 11) (.tmp 12), (some 13), none, [0, 1], none⟩]
def d52r2 : List RO := [
  ⟨.mov (.tmp 0), (some 16), none, [], none⟩,
  ⟨.mov (.tmp 1), (some 17), none, [], none⟩,
  ⟨.mov (.tmp 10), (some 18), none, [], none⟩,
  ⟨.bin .add (.tmp 17) (.tmp 18), (some 19), none, [1, 2], none⟩,
  ⟨.mov (.tmp 0), (some 20), none, [], none⟩,
  ⟨.mov (.tmp 2), (some 21), none, [], none⟩,
  ⟨.mov (.tmp 10), (some 22), none, [], none⟩,
  ⟨.bin .add (.tmp 21) (.tmp 22), (some 23), none, [5, 6], none⟩,
  ⟨.mov (.tmp 0), (some 24), none, [], none⟩,
  ⟨.mov (.tmp 2), (some 25), none, [], none⟩,
  ⟨.mov (.tmp 10), (some 26), none, [], none⟩,
  ⟨.bin .add (.tmp 25) (.tmp 26), (some 27), none, [9, 10], none⟩,
  ⟨.idxAddr 5 (.tmp 24) (.tmp 27), (some 28), none, [8, 11], none⟩,
  ⟨.load 5 true (.tmp 28), (some 29), none, [12], none⟩,
  ⟨.mov (.tmp 0), (some 30), none, [], none⟩,
  ⟨.mov (.tmp 1), (some 31), none, [], none⟩,
  ⟨.mov (.tmp 10), (some 32), none, [], none⟩,
  ⟨.bin .add (.tmp 31) (.tmp 32), (some 33), none, [15, 16], none⟩,
  ⟨.idxAddr 5 (.tmp 30) (.tmp 33), (some 34), none, [14, 17], none⟩,
  ⟨.load 5 true (.tmp 34), (some 35), none, [18], none⟩,
  ⟨.idxAddr 5 (.tmp 16) (.tmp 19), (some 36), none, [0, 3, 0, 1, 2, 3, 8, 9, 10, 11, 12, 13, 19], none⟩,
  ⟨.store 5 (.tmp 36) (.tmp 29), none, none, [20, 13, 0, 1, 2, 3, 8, 9, 10, 11, 12, 13, 19], none⟩,
  ⟨.idxAddr 5 (.tmp 20) (.tmp 23), (some 37), none, [4, 7, 0, 1, 2, 3, 4, 5, 6, 7, 8, 9, 10, 11, 12, 13, 14, 15, 16, 17, 18, 19, 20, 21], none⟩,
  ⟨.store 5 (.tmp 37) (.tmp 35), none, none, [22, 19, 21, 0, 1, 2, 3, 4, 5, 6, 7, 8, 9, 10, 11, 12, 13, 14, 15, 16, 17, 18, 19, 20, 21], none⟩]
def d52r3 : List RO := [
  ⟨.mov (.tmp 10), (some 14), none, [], none⟩,
  ⟨.bin .add (.tmp 14) (.con (.v (.int .i64 1))), (some 15), none, [0], none⟩,
  ⟨.mov (.tmp 15), (some 10), none, [1, 0, 1], none⟩]
def d52 : DC := (.seq (.region false d52r0)
  (.block 0 (.loop (.seq (.seq (.region false d52r1)
  (.cond (.tmp 13) .skip
  (.exit 0)))
  (.seq (.block 1 (.region true d52r2))
  (.region false d52r3))))))
def d52res : List DRes := []
theorem c52 : CodeOf Try.prog 52 38 d52 d52res := ⟨Try.f52, by kernel_rfl, by kernel_rfl, by kernel_rfl, by kernel_rfl, by kernel_rfl⟩
end Go.Proofs
