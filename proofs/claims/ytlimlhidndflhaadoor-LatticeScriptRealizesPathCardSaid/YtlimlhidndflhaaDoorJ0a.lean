import Derived.Test.YtlimlhidndflhaaDoorProg
import Derived.KernelRfl
import Derived.Test.YtlimlhidndflhaaDoorMe
set_option maxRecDepth 100000

namespace Go.Proofs
open Go.DM

instance seatLaid : Laid := ⟨[(0, [.raw .nilFunc, .fn (.func 80) [], .fn (.func 81) [], .fn (.func 82) [], .fn (.func 83) []])]⟩

-- emendate/lattice.Build
def d12r0 : List RO := [
  ⟨.box (.tmp 0), (some 1), none, [], none⟩,
  ⟨.alloc [(.v (.int .i64 0)), .nil0, .nil0], (some 2), none, [], none⟩]
def d12r1 : List RO := [
  ⟨.load 3 true (.tmp 1), (some 11), none, [], none⟩,
  ⟨.mkMap [(.int .i64), (.int .i64), (.int .i64)] true, (some 12), none, [], none⟩,
  ⟨.build [.nil0, .nil0, (.v (.int .i64 0)), (.v (.raw (Go.Value.map Option.none)))] [(0, 3, (.tmp 11)), (3, 1, (.tmp 12))], (some 13), none, [0, 1], none⟩,
  ⟨.box (.tmp 13), (some 14), none, [2], none⟩,
  ⟨.mov (.tmp 14), (some 3), none, [3, 0, 1, 2, 3], none⟩]
def d12r2 : List RO := [
  ⟨.addOff 0 (.tmp 1), (some 15), none, [], none⟩,
  ⟨.load 1 false (.tmp 15), (some 16), none, [0], none⟩,
  ⟨.len (.tmp 16), (some 17), none, [1], none⟩,
  ⟨.mov (.tmp 17), (some 4), none, [2, 0, 1, 2], none⟩]
def d12r3 : List RO := [
  ⟨.mov (.tmp 4), (some 18), none, [], none⟩,
  ⟨.bin .mul (.con (.v (.int .i64 2))) (.tmp 18), (some 19), none, [0], none⟩,
  ⟨.bin .add (.tmp 19) (.con (.v (.int .i64 1))), (some 20), none, [1], none⟩,
  ⟨.bslice 1 1 [(.v (.int .i64 0))] [(0, 1, (.con (.v (.int .i64 1099511627776))))], (some 21), none, [], none⟩,
  ⟨.mov (.tmp 4), (some 22), none, [], none⟩,
  ⟨.bin .mul (.con (.v (.int .i64 2))) (.tmp 22), (some 23), none, [4], none⟩,
  ⟨.bin .add (.tmp 23) (.con (.v (.int .i64 1))), (some 24), none, [5], none⟩,
  ⟨.call 21 [(.tmp 21), (.tmp 24)], (some 25), none, [3, 6], none⟩,
  ⟨.build [(.v (.int .i64 0)), .nil0, .nil0] [(0, 1, (.tmp 20)), (2, 1, (.tmp 25))], (some 26), none, [2, 7], none⟩,
  ⟨.alloc [(.v (.int .i64 0)), .nil0, .nil0], (some 5), none, [], none⟩,
  ⟨.store 3 (.tmp 5) (.tmp 26), none, none, [9, 8, 7, 0, 1, 2, 3, 4, 5, 6, 7, 8, 9], none⟩]
def d12r3S : List RO := [
  ⟨.mov (.tmp 4), (some 18), none, [], none⟩,
  ⟨.bin .mul (.con (.v (.int .i64 2))) (.tmp 18), (some 19), none, [0], none⟩,
  ⟨.bin .add (.tmp 19) (.con (.v (.int .i64 1))), (some 20), none, [1], none⟩,
  ⟨.bslice 1 1 [(.v (.int .i64 0))] [(0, 1, (.con (.v (.int .i64 1099511627776))))], (some 21), none, [], none⟩,
  ⟨.mov (.tmp 4), (some 22), none, [], none⟩,
  ⟨.bin .mul (.con (.v (.int .i64 2))) (.tmp 22), (some 23), none, [4], none⟩,
  ⟨.bin .add (.tmp 23) (.con (.v (.int .i64 1))), (some 24), none, [5], none⟩,
  ⟨.callF 21 [(.tmp 21), (.tmp 24)], (some 25), none, [3, 6], none⟩,
  ⟨.build [(.v (.int .i64 0)), .nil0, .nil0] [(0, 1, (.tmp 20)), (2, 1, (.tmp 25))], (some 26), none, [2, 7], none⟩,
  ⟨.alloc [(.v (.int .i64 0)), .nil0, .nil0], (some 5), none, [], none⟩,
  ⟨.store 3 (.tmp 5) (.tmp 26), none, none, [9, 8, 7, 0, 1, 2, 3, 4, 5, 6, 7, 8, 9], none⟩]
def d12r4 : List RO := [
  ⟨.mov (.tmp 4), (some 27), none, [], none⟩,
  ⟨.bin .add (.tmp 27) (.con (.v (.int .i64 1))), (some 28), none, [0], none⟩,
  ⟨.mov (.con (.v (.int .i64 0))), (some 29), none, [], none⟩]
def d12r5 : List RO := [
  ⟨.bin .lss (.tmp 29) (.tmp 28), (some 30), none, [], none⟩]
def d12r6 : List RO := [
  ⟨.mov (.tmp 29), (some 31), none, [], none⟩,
  ⟨.mov (.tmp 31), (some 6), none, [0, 0], none⟩]
def d12r7 : List RO := [
  ⟨.mov (.tmp 3), (some 32), none, [], none⟩,
  ⟨.mov (.tmp 6), (some 33), none, [], none⟩,
  ⟨.call 22 [(.tmp 32), (.tmp 33)], (some 34), none, [0, 1], none⟩]
def d12r7S : List RO := [
  ⟨.mov (.tmp 3), (some 32), none, [], none⟩,
  ⟨.mov (.tmp 6), (some 33), none, [], none⟩,
  ⟨.callS 22 [(.tmp 32), (.tmp 33)], (some 34), none, [0, 1], none⟩]
def d12r8 : List RO := [
  ⟨.addOff 2 (.tmp 5), (some 36), none, [], none⟩,
  ⟨.load 1 false (.tmp 36), (some 37), none, [0], none⟩,
  ⟨.mov (.tmp 6), (some 38), none, [], none⟩,
  ⟨.bin .mul (.con (.v (.int .i64 2))) (.tmp 38), (some 39), none, [2], none⟩,
  ⟨.mov (.tmp 3), (some 40), none, [], none⟩,
  ⟨.mov (.tmp 6), (some 41), none, [], none⟩,
  ⟨.mov (.tmp 4), (some 42), none, [], none⟩,
  ⟨.call 23 [(.tmp 40), (.tmp 41), (.tmp 42)], (some 43), none, [4, 5, 6], none⟩,
  ⟨.mov (.tmp 43), (some 35), none, [7], none⟩,
  ⟨.extract 0 (.tmp 35), (some 44), none, [8], none⟩,
  ⟨.extract 1 (.tmp 35), (some 45), none, [8], none⟩,
  ⟨.idxAddr 1 (.tmp 37) (.tmp 39), (some 46), none, [1, 3, 0, 1, 2, 3, 4, 5, 6, 7, 8, 9], none⟩,
  ⟨.store 1 (.tmp 46) (.tmp 44), none, none, [11, 9, 7, 0, 1, 2, 3, 4, 5, 6, 7, 8, 9], none⟩]
def d12r9 : List RO := [
  ⟨.bin .add (.tmp 29) (.con (.v (.int .i64 1))), (some 47), none, [], none⟩,
  ⟨.mov (.tmp 47), (some 29), none, [0], none⟩]
def d12r10 : List RO := [
  ⟨.mov (.con .nil0), (some 7), none, [], none⟩]
def d12r11 : List RO := [
  ⟨.mov (.tmp 3), (some 48), none, [], none⟩,
  ⟨.nilCheck (.tmp 48), (some 49), none, [0], none⟩,
  ⟨.addOff 3 (.tmp 49), (some 50), none, [1], none⟩,
  ⟨.load 1 false (.tmp 50), (some 51), none, [2], none⟩,
  ⟨.rangeM (.tmp 51), (some 52), none, [3], none⟩]
def d12r12 : List RO := [
  ⟨.entryM (.tmp 52), (some 55), none, [], none⟩,
  ⟨.extract 0 (.tmp 55), (some 56), none, [0], none⟩,
  ⟨.alloc [(.v (.int .i64 0)), (.v (.int .i64 0)), (.v (.int .i64 0))], (some 8), none, [], none⟩,
  ⟨.store 3 (.tmp 8) (.tmp 56), none, none, [2, 1, 0, 1, 2], none⟩]
def d12r13 : List RO := [
  ⟨.mov (.tmp 7), (some 57), none, [], none⟩,
  ⟨.load 3 true (.tmp 8), (some 58), none, [], none⟩,
  ⟨.bslice 1 3 [(.v (.int .i64 0)), (.v (.int .i64 0)), (.v (.int .i64 0))] [(0, 3, (.tmp 58))], (some 59), none, [1], none⟩,
  ⟨.append 68 3 24 (.tmp 57) (.tmp 59), (some 60), none, [0, 2], none⟩,
  ⟨.mov (.tmp 60), (some 7), none, [3, 3, 0, 1, 2, 3], none⟩]
def d12r14 : List RO := [
  ⟨.mov (.tmp 7), (some 61), none, [], none⟩,
  ⟨.call 24 [(.tmp 61), (.con (.v (.fn (.func 25) [])))], (some 62), none, [0], none⟩]
def d12r14S : List RO := [
  ⟨.mov (.tmp 7), (some 61), none, [], none⟩,
  ⟨.callS 24 [(.tmp 61), (.con (.v (.fn (.func 25) [])))], (some 62), none, [0], none⟩]
def d12r15 : List RO := [
  ⟨.mov (.tmp 7), (some 63), none, [], none⟩,
  ⟨.len (.tmp 63), (some 64), none, [0], none⟩,
  ⟨.mov (.con (.v (.int .i64 0))), (some 65), none, [], none⟩]
def d12r16 : List RO := [
  ⟨.bin .lss (.tmp 65) (.tmp 64), (some 66), none, [], none⟩]
def d12r17 : List RO := [
  ⟨.idxAddr 3 (.tmp 63) (.tmp 65), (some 67), none, [], none⟩,
  ⟨.load 3 true (.tmp 67), (some 68), none, [0], none⟩,
  ⟨.alloc [(.v (.int .i64 0)), (.v (.int .i64 0)), (.v (.int .i64 0))], (some 10), none, [], none⟩,
  ⟨.store 3 (.tmp 10) (.tmp 68), none, none, [2, 1, 0, 1, 2], none⟩]
def d12r18 : List RO := [
  ⟨.addOff 1 (.tmp 5), (some 69), none, [], none⟩,
  ⟨.load 1 false (.tmp 69), (some 70), none, [0], none⟩,
  ⟨.mov (.tmp 3), (some 71), none, [], none⟩,
  ⟨.nilCheck (.tmp 71), (some 72), none, [2], none⟩,
  ⟨.addOff 3 (.tmp 72), (some 73), none, [3], none⟩,
  ⟨.load 1 false (.tmp 73), (some 74), none, [4], none⟩,
  ⟨.load 3 true (.tmp 10), (some 75), none, [], none⟩,
  ⟨.lookup [(.int .i64), (.int .i64), (.int .i64)] true (.agg [(.v (.int .i64 0)), (.v (.int .i64 0)), (.v (.int .i64 0)), (.v (.int .i64 0)), .nil0]) false (.tmp 74) (.tmp 75), (some 76), none, [5, 6], none⟩,
  ⟨.bslice 1 5 [(.v (.int .i64 0)), (.v (.int .i64 0)), (.v (.int .i64 0)), (.v (.int .i64 0)), .nil0] [(0, 5, (.tmp 76))], (some 77), none, [7], none⟩,
  ⟨.append 42 5 56 (.tmp 70) (.tmp 77), (some 78), none, [1, 8], none⟩,
  ⟨.addOff 1 (.tmp 5), (some 79), none, [0, 1, 2, 3, 4, 5, 6, 7, 8, 9], none⟩,
  ⟨.store 1 (.tmp 79) (.tmp 78), none, none, [10, 9, 9, 0, 1, 2, 3, 4, 5, 6, 7, 8, 9], none⟩]
def d12r19 : List RO := [
  ⟨.bin .add (.tmp 65) (.con (.v (.int .i64 1))), (some 80), none, [], none⟩,
  ⟨.mov (.tmp 80), (some 65), none, [0], none⟩]
def d12r20 : List RO := [
  ⟨.load 3 true (.tmp 5), (some 81), none, [], none⟩,
  ⟨.store 3 (.tmp 2) (.tmp 81), none, none, [0, 0], none⟩]
def d12 : DC := (.seq (.region false d12r0)
  (.seq (.region false d12r1)
  (.seq (.region false d12r2)
  (.seq (.region false d12r3)
  (.seq (.seq (.region false d12r4)
  (.block 0 (.loop (.seq (.region false d12r5)
  (.seq (.cond (.tmp 30) .skip
  (.exit 0))
  (.seq (.block 1 (.seq (.region false d12r6)
  (.seq (.region false d12r7)
  (.region true d12r8))))
  (.region false d12r9)))))))
  (.seq (.region false d12r10)
  (.seq (.seq (.region false d12r11)
  (.block 2 (.loop (.seq (.nextR (.tmp 52) 53 54)
  (.seq (.cond (.tmp 54) .skip
  (.exit 2))
  (.block 3 (.seq (.region false d12r12)
  (.region false d12r13))))))))
  (.seq (.region false d12r14)
  (.seq (.seq (.region false d12r15)
  (.block 4 (.loop (.seq (.region false d12r16)
  (.seq (.cond (.tmp 66) .skip
  (.exit 4))
  (.seq (.block 5 (.seq (.region false d12r17)
  (.region true d12r18)))
  (.region false d12r19)))))))
  (.seq (.region false d12r20)
  .ret))))))))))
def d12res : List DRes := [.cell 2 3 true]
theorem c12 [Laid] : CodeOf Tryd.prog 6 82 d12 d12res := ⟨Tryd.f6, by kernel_rfl, by kernel_rfl, by kernel_rfl, by kernel_rfl, by kernel_rfl⟩
-- (*emendate/lattice.builder).from
def d30r0 : List RO := [
  ⟨.mov (.tmp 0), (some 12), none, [], none⟩,
  ⟨.nilCheck (.tmp 12), (some 13), none, [0], none⟩,
  ⟨.addOff 0 (.tmp 13), (some 14), none, [1], none⟩,
  ⟨.addOff 0 (.tmp 14), (some 15), none, [2], none⟩,
  ⟨.load 1 false (.tmp 15), (some 16), none, [3], none⟩,
  ⟨.len (.tmp 16), (some 17), none, [4], none⟩,
  ⟨.mov (.tmp 17), (some 4), none, [5, 0, 1, 2, 3, 4, 5], none⟩]
def d30r1 : List RO := [
  ⟨.mov (.tmp 1), (some 18), none, [], none⟩,
  ⟨.mov (.tmp 18), (some 5), none, [0, 0], none⟩]
def d30r2 : List RO := [
  ⟨.mov (.tmp 5), (some 19), none, [], none⟩,
  ⟨.mov (.tmp 4), (some 20), none, [], none⟩,
  ⟨.bin .leq (.tmp 19) (.tmp 20), (some 21), none, [0, 1], none⟩]
def d30r3 : List RO := [
  ⟨.mov (.tmp 0), (some 25), none, [], none⟩,
  ⟨.mov (.tmp 1), (some 26), none, [], none⟩,
  ⟨.mov (.tmp 5), (some 27), none, [], none⟩,
  ⟨.call 23 [(.tmp 25), (.tmp 26), (.tmp 27)], (some 28), none, [0, 1, 2], none⟩,
  ⟨.mov (.tmp 28), (some 24), none, [3], none⟩,
  ⟨.extract 0 (.tmp 24), (some 29), none, [4], none⟩,
  ⟨.extract 1 (.tmp 24), (some 30), none, [4], none⟩,
  ⟨.mov (.tmp 29), (some 6), none, [5, 3, 0, 1, 2, 3, 4, 5], none⟩,
  ⟨.mov (.tmp 30), (some 7), none, [6, 7, 0, 1, 2, 3, 4, 5, 6, 7], none⟩]
def d30r3S : List RO := [
  ⟨.mov (.tmp 0), (some 25), none, [], none⟩,
  ⟨.mov (.tmp 1), (some 26), none, [], none⟩,
  ⟨.mov (.tmp 5), (some 27), none, [], none⟩,
  ⟨.callS 23 [(.tmp 25), (.tmp 26), (.tmp 27)], (some 28), none, [0, 1, 2], none⟩,
  ⟨.mov (.tmp 28), (some 24), none, [3], none⟩,
  ⟨.extract 0 (.tmp 24), (some 29), none, [4], none⟩,
  ⟨.extract 1 (.tmp 24), (some 30), none, [4], none⟩,
  ⟨.mov (.tmp 29), (some 6), none, [5, 3, 0, 1, 2, 3, 4, 5], none⟩,
  ⟨.mov (.tmp 30), (some 7), none, [6, 7, 0, 1, 2, 3, 4, 5, 6, 7], none⟩]
def d30r4 : List RO := [
  ⟨.mov (.tmp 5), (some 31), none, [], none⟩,
  ⟨.mov (.tmp 1), (some 32), none, [], none⟩,
  ⟨.bin .gtr (.tmp 31) (.tmp 32), (some 33), none, [0, 1], none⟩]
def d30r5 : List RO := [
  ⟨.mov (.tmp 0), (some 35), none, [], none⟩,
  ⟨.mov (.tmp 1), (some 36), none, [], none⟩,
  ⟨.mov (.tmp 5), (some 37), none, [], none⟩,
  ⟨.bin .sub (.tmp 37) (.con (.v (.int .i64 1))), (some 38), none, [2], none⟩,
  ⟨.call 23 [(.tmp 35), (.tmp 36), (.tmp 38)], (some 39), none, [0, 1, 3], none⟩,
  ⟨.mov (.tmp 39), (some 34), none, [4], none⟩,
  ⟨.extract 0 (.tmp 34), (some 40), none, [5], none⟩,
  ⟨.extract 1 (.tmp 34), (some 41), none, [5], none⟩,
  ⟨.mov (.tmp 40), (some 8), none, [6, 4, 0, 1, 2, 3, 4, 5, 6], none⟩,
  ⟨.mov (.tmp 41), (some 9), none, [7, 8, 0, 1, 2, 3, 4, 5, 6, 7, 8], none⟩]
def d30r5S : List RO := [
  ⟨.mov (.tmp 0), (some 35), none, [], none⟩,
  ⟨.mov (.tmp 1), (some 36), none, [], none⟩,
  ⟨.mov (.tmp 5), (some 37), none, [], none⟩,
  ⟨.bin .sub (.tmp 37) (.con (.v (.int .i64 1))), (some 38), none, [2], none⟩,
  ⟨.callS 23 [(.tmp 35), (.tmp 36), (.tmp 38)], (some 39), none, [0, 1, 3], none⟩,
  ⟨.mov (.tmp 39), (some 34), none, [4], none⟩,
  ⟨.extract 0 (.tmp 34), (some 40), none, [5], none⟩,
  ⟨.extract 1 (.tmp 34), (some 41), none, [5], none⟩,
  ⟨.mov (.tmp 40), (some 8), none, [6, 4, 0, 1, 2, 3, 4, 5, 6], none⟩,
  ⟨.mov (.tmp 41), (some 9), none, [7, 8, 0, 1, 2, 3, 4, 5, 6, 7, 8], none⟩]
def d30r6 : List RO := [
  ⟨.mov (.tmp 0), (some 42), none, [], none⟩,
  ⟨.mov (.tmp 1), (some 43), none, [], none⟩,
  ⟨.mov (.tmp 5), (some 44), none, [], none⟩,
  ⟨.bin .sub (.tmp 44) (.con (.v (.int .i64 1))), (some 45), none, [2], none⟩,
  ⟨.mov (.tmp 8), (some 46), none, [], none⟩,
  ⟨.mov (.tmp 9), (some 47), none, [], none⟩,
  ⟨.call 34 [(.tmp 42), (.tmp 43), (.tmp 45), (.tmp 46), (.tmp 47)], (some 48), none, [0, 1, 3, 4, 5], none⟩]
def d30r6S : List RO := [
  ⟨.mov (.tmp 0), (some 42), none, [], none⟩,
  ⟨.mov (.tmp 1), (some 43), none, [], none⟩,
  ⟨.mov (.tmp 5), (some 44), none, [], none⟩,
  ⟨.bin .sub (.tmp 44) (.con (.v (.int .i64 1))), (some 45), none, [2], none⟩,
  ⟨.mov (.tmp 8), (some 46), none, [], none⟩,
  ⟨.mov (.tmp 9), (some 47), none, [], none⟩,
  ⟨.callS 34 [(.tmp 42), (.tmp 43), (.tmp 45), (.tmp 46), (.tmp 47)], (some 48), none, [0, 1, 3, 4, 5], none⟩]
def d30r7 : List RO := [
  ⟨.mov (.tmp 0), (some 49), none, [], none⟩,
  ⟨.nilCheck (.tmp 49), (some 50), none, [0], none⟩,
  ⟨.addOff 0 (.tmp 50), (some 51), none, [1], none⟩,
  ⟨.addOff 1 (.tmp 51), (some 52), none, [2], none⟩,
  ⟨.load 1 false (.tmp 52), (some 53), none, [3], none⟩,
  ⟨.len (.tmp 53), (some 54), none, [4], none⟩,
  ⟨.mov (.con (.v (.int .i64 0))), (some 55), none, [], none⟩]
def d30r8 : List RO := [
  ⟨.bin .lss (.tmp 55) (.tmp 54), (some 56), none, [], none⟩]
def d30r9 : List RO := [
  ⟨.mov (.tmp 55), (some 57), none, [], none⟩,
  ⟨.idxAddr 1 (.tmp 53) (.tmp 55), (some 58), none, [], none⟩,
  ⟨.load 1 false (.tmp 58), (some 59), none, [1], none⟩,
  ⟨.mov (.tmp 57), (some 10), none, [0, 0, 1, 2], none⟩,
  ⟨.mov (.tmp 59), (some 11), none, [2, 3, 0, 1, 2, 3], none⟩]
def d30r10 : List RO := [
  ⟨.mov (.tmp 0), (some 60), none, [], none⟩,
  ⟨.mov (.tmp 1), (some 61), none, [], none⟩,
  ⟨.bin .mul (.con (.v (.int .i64 2))) (.tmp 61), (some 62), none, [1], none⟩,
  ⟨.mov (.tmp 5), (some 63), none, [], none⟩,
  ⟨.bin .mul (.con (.v (.int .i64 2))) (.tmp 63), (some 64), none, [3], none⟩,
  ⟨.mov (.tmp 10), (some 65), none, [], none⟩,
  ⟨.mov (.tmp 6), (some 66), none, [], none⟩,
  ⟨.mov (.tmp 11), (some 67), none, [], none⟩,
  ⟨.bin .add (.tmp 66) (.tmp 67), (some 68), none, [6, 7], none⟩,
  ⟨.mov (.tmp 7), (some 69), none, [], none⟩,
  ⟨.call 36 [(.tmp 69)], (some 70), none, [9], none⟩,
  ⟨.mov (.tmp 10), (some 71), none, [], none⟩,
  ⟨.build [(.v (.int .i64 0)), (.v (.int .i64 0))] [(0, 1, (.con (.v (.int .i64 3)))), (1, 1, (.tmp 71))], (some 72), none, [11], none⟩,
  ⟨.bslice 1 2 [(.v (.int .i64 0)), (.v (.int .i64 0))] [(0, 2, (.tmp 72))], (some 73), none, [12], none⟩,
  ⟨.append 53 2 16 (.tmp 70) (.tmp 73), (some 74), none, [10, 13, 10], none⟩,
  ⟨.build [(.v (.int .i64 0)), (.v (.int .i64 0)), (.v (.int .i64 0)), (.v (.int .i64 0)), .nil0] [(0, 1, (.tmp 62)), (1, 1, (.tmp 64)), (2, 1, (.tmp 65)), (3, 1, (.tmp 68)), (4, 1, (.tmp 74))], (some 75), none, [2, 4, 5, 8, 14], none⟩,
  ⟨.call 35 [(.tmp 60), (.tmp 75)], (some 76), none, [0, 15, 14], none⟩]
def d30r10S : List RO := [
  ⟨.mov (.tmp 0), (some 60), none, [], none⟩,
  ⟨.mov (.tmp 1), (some 61), none, [], none⟩,
  ⟨.bin .mul (.con (.v (.int .i64 2))) (.tmp 61), (some 62), none, [1], none⟩,
  ⟨.mov (.tmp 5), (some 63), none, [], none⟩,
  ⟨.bin .mul (.con (.v (.int .i64 2))) (.tmp 63), (some 64), none, [3], none⟩,
  ⟨.mov (.tmp 10), (some 65), none, [], none⟩,
  ⟨.mov (.tmp 6), (some 66), none, [], none⟩,
  ⟨.mov (.tmp 11), (some 67), none, [], none⟩,
  ⟨.bin .add (.tmp 66) (.tmp 67), (some 68), none, [6, 7], none⟩,
  ⟨.mov (.tmp 7), (some 69), none, [], none⟩,
  ⟨.callF 36 [(.tmp 69)], (some 70), none, [9], none⟩,
  ⟨.mov (.tmp 10), (some 71), none, [], none⟩,
  ⟨.build [(.v (.int .i64 0)), (.v (.int .i64 0))] [(0, 1, (.con (.v (.int .i64 3)))), (1, 1, (.tmp 71))], (some 72), none, [11], none⟩,
  ⟨.bslice 1 2 [(.v (.int .i64 0)), (.v (.int .i64 0))] [(0, 2, (.tmp 72))], (some 73), none, [12], none⟩,
  ⟨.append 53 2 16 (.tmp 70) (.tmp 73), (some 74), none, [10, 13, 10], none⟩,
  ⟨.build [(.v (.int .i64 0)), (.v (.int .i64 0)), (.v (.int .i64 0)), (.v (.int .i64 0)), .nil0] [(0, 1, (.tmp 62)), (1, 1, (.tmp 64)), (2, 1, (.tmp 65)), (3, 1, (.tmp 68)), (4, 1, (.tmp 74))], (some 75), none, [2, 4, 5, 8, 14], none⟩,
  ⟨.callS 35 [(.tmp 60), (.tmp 75)], (some 76), none, [0, 15, 14], none⟩]
def d30r11 : List RO := [
  ⟨.bin .add (.tmp 55) (.con (.v (.int .i64 1))), (some 77), none, [], none⟩,
  ⟨.mov (.tmp 77), (some 55), none, [0], none⟩]
def d30r12 : List RO := [
  ⟨.mov (.tmp 0), (some 78), none, [], none⟩,
  ⟨.mov (.tmp 5), (some 79), none, [], none⟩,
  ⟨.call 37 [(.tmp 78), (.tmp 79)], (some 80), none, [0, 1], none⟩]
def d30r12S : List RO := [
  ⟨.mov (.tmp 0), (some 78), none, [], none⟩,
  ⟨.mov (.tmp 5), (some 79), none, [], none⟩,
  ⟨.callS 37 [(.tmp 78), (.tmp 79)], (some 80), none, [0, 1], none⟩]
def d30r13 : List RO := [
  ⟨.mov (.tmp 0), (some 81), none, [], none⟩,
  ⟨.mov (.tmp 1), (some 82), none, [], none⟩,
  ⟨.bin .mul (.con (.v (.int .i64 2))) (.tmp 82), (some 83), none, [1], none⟩,
  ⟨.mov (.tmp 5), (some 84), none, [], none⟩,
  ⟨.bin .mul (.con (.v (.int .i64 2))) (.tmp 84), (some 85), none, [3], none⟩,
  ⟨.bin .add (.tmp 85) (.con (.v (.int .i64 1))), (some 86), none, [4], none⟩,
  ⟨.mov (.tmp 0), (some 87), none, [], none⟩,
  ⟨.nilCheck (.tmp 87), (some 88), none, [6], none⟩,
  ⟨.addOff 0 (.tmp 88), (some 89), none, [7], none⟩,
  ⟨.addOff 0 (.tmp 89), (some 90), none, [8], none⟩,
  ⟨.load 1 false (.tmp 90), (some 91), none, [9], none⟩,
  ⟨.mov (.tmp 5), (some 92), none, [], none⟩,
  ⟨.bin .add (.tmp 92) (.con (.v (.int .i64 1))), (some 93), none, [11], none⟩,
  ⟨.idxAddr 3 (.tmp 91) (.tmp 93), (some 94), none, [10, 12], none⟩,
  ⟨.addOff 0 (.tmp 94), (some 95), none, [13], none⟩,
  ⟨.load 1 false (.tmp 95), (some 96), none, [14], none⟩,
  ⟨.mov (.tmp 6), (some 97), none, [], none⟩,
  ⟨.mov (.tmp 0), (some 98), none, [], none⟩,
  ⟨.nilCheck (.tmp 98), (some 99), none, [17], none⟩,
  ⟨.addOff 0 (.tmp 99), (some 100), none, [18], none⟩,
  ⟨.addOff 2 (.tmp 100), (some 101), none, [19], none⟩,
  ⟨.load 1 false (.tmp 101), (some 102), none, [20], none⟩,
  ⟨.bin .add (.tmp 97) (.tmp 102), (some 103), none, [16, 21], none⟩,
  ⟨.mov (.tmp 7), (some 104), none, [], none⟩,
  ⟨.call 36 [(.tmp 104)], (some 105), none, [23], none⟩,
  ⟨.build [(.v (.int .i64 0)), (.v (.int .i64 0))] [(0, 1, (.con (.v (.int .i64 4))))], (some 106), none, [], none⟩,
  ⟨.bslice 1 2 [(.v (.int .i64 0)), (.v (.int .i64 0))] [(0, 2, (.tmp 106))], (some 107), none, [25], none⟩,
  ⟨.append 53 2 16 (.tmp 105) (.tmp 107), (some 108), none, [24, 26, 24], none⟩,
  ⟨.build [(.v (.int .i64 0)), (.v (.int .i64 0)), (.v (.int .i64 0)), (.v (.int .i64 0)), .nil0] [(0, 1, (.tmp 83)), (1, 1, (.tmp 86)), (2, 1, (.tmp 96)), (3, 1, (.tmp 103)), (4, 1, (.tmp 108))], (some 109), none, [2, 5, 15, 22, 27], none⟩,
  ⟨.call 35 [(.tmp 81), (.tmp 109)], (some 110), none, [0, 28, 27], none⟩]
def d30r13S : List RO := [
  ⟨.mov (.tmp 0), (some 81), none, [], none⟩,
  ⟨.mov (.tmp 1), (some 82), none, [], none⟩,
  ⟨.bin .mul (.con (.v (.int .i64 2))) (.tmp 82), (some 83), none, [1], none⟩,
  ⟨.mov (.tmp 5), (some 84), none, [], none⟩,
  ⟨.bin .mul (.con (.v (.int .i64 2))) (.tmp 84), (some 85), none, [3], none⟩,
  ⟨.bin .add (.tmp 85) (.con (.v (.int .i64 1))), (some 86), none, [4], none⟩,
  ⟨.mov (.tmp 0), (some 87), none, [], none⟩,
  ⟨.nilCheck (.tmp 87), (some 88), none, [6], none⟩,
  ⟨.addOff 0 (.tmp 88), (some 89), none, [7], none⟩,
  ⟨.addOff 0 (.tmp 89), (some 90), none, [8], none⟩,
  ⟨.load 1 false (.tmp 90), (some 91), none, [9], none⟩,
  ⟨.mov (.tmp 5), (some 92), none, [], none⟩,
  ⟨.bin .add (.tmp 92) (.con (.v (.int .i64 1))), (some 93), none, [11], none⟩,
  ⟨.idxAddr 3 (.tmp 91) (.tmp 93), (some 94), none, [10, 12], none⟩,
  ⟨.addOff 0 (.tmp 94), (some 95), none, [13], none⟩,
  ⟨.load 1 false (.tmp 95), (some 96), none, [14], none⟩,
  ⟨.mov (.tmp 6), (some 97), none, [], none⟩,
  ⟨.mov (.tmp 0), (some 98), none, [], none⟩,
  ⟨.nilCheck (.tmp 98), (some 99), none, [17], none⟩,
  ⟨.addOff 0 (.tmp 99), (some 100), none, [18], none⟩,
  ⟨.addOff 2 (.tmp 100), (some 101), none, [19], none⟩,
  ⟨.load 1 false (.tmp 101), (some 102), none, [20], none⟩,
  ⟨.bin .add (.tmp 97) (.tmp 102), (some 103), none, [16, 21], none⟩,
  ⟨.mov (.tmp 7), (some 104), none, [], none⟩,
  ⟨.callF 36 [(.tmp 104)], (some 105), none, [23], none⟩,
  ⟨.build [(.v (.int .i64 0)), (.v (.int .i64 0))] [(0, 1, (.con (.v (.int .i64 4))))], (some 106), none, [], none⟩,
  ⟨.bslice 1 2 [(.v (.int .i64 0)), (.v (.int .i64 0))] [(0, 2, (.tmp 106))], (some 107), none, [25], none⟩,
  ⟨.append 53 2 16 (.tmp 105) (.tmp 107), (some 108), none, [24, 26, 24], none⟩,
  ⟨.build [(.v (.int .i64 0)), (.v (.int .i64 0)), (.v (.int .i64 0)), (.v (.int .i64 0)), .nil0] [(0, 1, (.tmp 83)), (1, 1, (.tmp 86)), (2, 1, (.tmp 96)), (3, 1, (.tmp 103)), (4, 1, (.tmp 108))], (some 109), none, [2, 5, 15, 22, 27], none⟩,
  ⟨.callS 35 [(.tmp 81), (.tmp 109)], (some 110), none, [0, 28, 27], none⟩]
def d30r14 : List RO := [
  ⟨.mov (.tmp 5), (some 22), none, [], none⟩,
  ⟨.bin .add (.tmp 22) (.con (.v (.int .i64 1))), (some 23), none, [0], none⟩,
  ⟨.mov (.tmp 23), (some 5), none, [1, 0, 1], none⟩]
def d30r15 : List RO := [
  ⟨.mov (.tmp 0), (some 111), none, [], none⟩,
  ⟨.mov (.tmp 1), (some 112), none, [], none⟩,
  ⟨.call 37 [(.tmp 111), (.tmp 112)], (some 113), none, [0, 1], none⟩]
def d30r15S : List RO := [
  ⟨.mov (.tmp 0), (some 111), none, [], none⟩,
  ⟨.mov (.tmp 1), (some 112), none, [], none⟩,
  ⟨.callS 37 [(.tmp 111), (.tmp 112)], (some 113), none, [0, 1], none⟩]
def d30r16 : List RO := [
  ⟨.mov (.tmp 0), (some 114), none, [], none⟩,
  ⟨.mov (.tmp 1), (some 115), none, [], none⟩,
  ⟨.bin .mul (.con (.v (.int .i64 2))) (.tmp 115), (some 116), none, [1], none⟩,
  ⟨.bin .add (.tmp 116) (.con (.v (.int .i64 1))), (some 117), none, [2], none⟩,
  ⟨.mov (.tmp 1), (some 118), none, [], none⟩,
  ⟨.bin .mul (.con (.v (.int .i64 2))) (.tmp 118), (some 119), none, [4], none⟩,
  ⟨.bin .add (.tmp 119) (.con (.v (.int .i64 4))), (some 120), none, [5], none⟩,
  ⟨.mov (.tmp 0), (some 121), none, [], none⟩,
  ⟨.nilCheck (.tmp 121), (some 122), none, [7], none⟩,
  ⟨.addOff 0 (.tmp 122), (some 123), none, [8], none⟩,
  ⟨.addOff 0 (.tmp 123), (some 124), none, [9], none⟩,
  ⟨.load 1 false (.tmp 124), (some 125), none, [10], none⟩,
  ⟨.mov (.tmp 1), (some 126), none, [], none⟩,
  ⟨.idxAddr 3 (.tmp 125) (.tmp 126), (some 127), none, [11, 12], none⟩,
  ⟨.addOff 0 (.tmp 127), (some 128), none, [13], none⟩,
  ⟨.load 1 false (.tmp 128), (some 129), none, [14], none⟩,
  ⟨.build [(.v (.int .i64 0)), (.v (.int .i64 0)), (.v (.int .i64 0)), (.v (.int .i64 0)), .nil0] [(0, 1, (.tmp 117)), (1, 1, (.tmp 120)), (2, 1, (.tmp 129))], (some 130), none, [3, 6, 15], none⟩,
  ⟨.call 35 [(.tmp 114), (.tmp 130)], (some 131), none, [0, 16], none⟩]
def d30r16S : List RO := [
  ⟨.mov (.tmp 0), (some 114), none, [], none⟩,
  ⟨.mov (.tmp 1), (some 115), none, [], none⟩,
  ⟨.bin .mul (.con (.v (.int .i64 2))) (.tmp 115), (some 116), none, [1], none⟩,
  ⟨.bin .add (.tmp 116) (.con (.v (.int .i64 1))), (some 117), none, [2], none⟩,
  ⟨.mov (.tmp 1), (some 118), none, [], none⟩,
  ⟨.bin .mul (.con (.v (.int .i64 2))) (.tmp 118), (some 119), none, [4], none⟩,
  ⟨.bin .add (.tmp 119) (.con (.v (.int .i64 4))), (some 120), none, [5], none⟩,
  ⟨.mov (.tmp 0), (some 121), none, [], none⟩,
  ⟨.nilCheck (.tmp 121), (some 122), none, [7], none⟩,
  ⟨.addOff 0 (.tmp 122), (some 123), none, [8], none⟩,
  ⟨.addOff 0 (.tmp 123), (some 124), none, [9], none⟩,
  ⟨.load 1 false (.tmp 124), (some 125), none, [10], none⟩,
  ⟨.mov (.tmp 1), (some 126), none, [], none⟩,
  ⟨.idxAddr 3 (.tmp 125) (.tmp 126), (some 127), none, [11, 12], none⟩,
  ⟨.addOff 0 (.tmp 127), (some 128), none, [13], none⟩,
  ⟨.load 1 false (.tmp 128), (some 129), none, [14], none⟩,
  ⟨.build [(.v (.int .i64 0)), (.v (.int .i64 0)), (.v (.int .i64 0)), (.v (.int .i64 0)), .nil0] [(0, 1, (.tmp 117)), (1, 1, (.tmp 120)), (2, 1, (.tmp 129))], (some 130), none, [3, 6, 15], none⟩,
  ⟨.callS 35 [(.tmp 114), (.tmp 130)], (some 131), none, [0, 16], none⟩]
def d30 : DC := (.seq (.region false d30r0)
  (.seq (.seq (.region false d30r1)
  (.block 0 (.loop (.seq (.seq (.region false d30r2)
  (.cond (.tmp 21) .skip
  (.exit 0)))
  (.seq (.block 1 (.seq (.region false d30r3)
  (.seq (.seq (.region false d30r4)
  (.cond (.tmp 33) (.seq (.region false d30r5)
  (.region false d30r6))
  .skip))
  (.seq (.seq (.region false d30r7)
  (.block 2 (.loop (.seq (.region false d30r8)
  (.seq (.cond (.tmp 56) .skip
  (.exit 2))
  (.seq (.block 3 (.seq (.region false d30r9)
  (.region false d30r10)))
  (.region false d30r11)))))))
  (.seq (.region false d30r12)
  (.cond (.tmp 80) (.regionT d30r13)
  .skip))))))
  (.region false d30r14))))))
  (.seq (.region false d30r15)
  (.cond (.tmp 113) (.region false d30r16)
  .skip))))
def d30res : List DRes := []
theorem c30 [Laid] : CodeOf Tryd.prog 22 132 d30 d30res := ⟨Tryd.f22, by kernel_rfl, by kernel_rfl, by kernel_rfl, by kernel_rfl, by kernel_rfl⟩
-- (*emendate/lattice.builder).deleted
def d31r0 : List RO := [
  ⟨.mov (.con (.v (.int .i64 0))), (some 6), none, [], none⟩,
  ⟨.mov (.con .nil0), (some 7), none, [0], none⟩]
def d31r1 : List RO := [
  ⟨.mov (.con (.v (.int .i64 0))), (some 8), none, [], none⟩]
def d31r2 : List RO := [
  ⟨.mov (.con .nil0), (some 9), none, [], none⟩]
def d31r3 : List RO := [
  ⟨.mov (.tmp 0), (some 12), none, [], none⟩,
  ⟨.nilCheck (.tmp 12), (some 13), none, [0], none⟩,
  ⟨.addOff 0 (.tmp 13), (some 14), none, [1], none⟩,
  ⟨.addOff 0 (.tmp 14), (some 15), none, [2], none⟩,
  ⟨.load 1 false (.tmp 15), (some 16), none, [3], none⟩,
  ⟨.mov (.tmp 1), (some 17), none, [], none⟩,
  ⟨.mov (.tmp 2), (some 18), none, [], none⟩,
  ⟨.slice 3 (.tmp 16) (some (.tmp 17)) (some (.tmp 18)), (some 19), none, [4, 5, 6], none⟩,
  ⟨.len (.tmp 19), (some 20), none, [7], none⟩,
  ⟨.mov (.con (.v (.int .i64 0))), (some 21), none, [], none⟩]
def d31r4 : List RO := [
  ⟨.bin .lss (.tmp 21) (.tmp 20), (some 22), none, [], none⟩]
def d31r5 : List RO := [
  ⟨.idxAddr 3 (.tmp 19) (.tmp 21), (some 23), none, [], none⟩,
  ⟨.load 3 true (.tmp 23), (some 24), none, [0], none⟩,
  ⟨.alloc [(.v (.int .i64 0)), .nil0, (.v (.int .i64 0))], (some 11), none, [], none⟩,
  ⟨.store 3 (.tmp 11) (.tmp 24), none, none, [2, 1, 0, 1, 2], none⟩]
def d31r6 : List RO := [
  ⟨.mov (.tmp 8), (some 25), none, [], none⟩,
  ⟨.addOff 2 (.tmp 11), (some 26), none, [], none⟩,
  ⟨.load 1 false (.tmp 26), (some 27), none, [1], none⟩,
  ⟨.bin .add (.tmp 25) (.tmp 27), (some 28), none, [0, 2], none⟩,
  ⟨.minmax false (.tmp 28) (.con (.v (.int .i64 1099511627776))), (some 29), none, [3], none⟩,
  ⟨.mov (.tmp 29), (some 8), none, [4, 0, 1, 2, 3, 4], none⟩]
def d31r7 : List RO := [
  ⟨.mov (.tmp 9), (some 30), none, [], none⟩,
  ⟨.build [(.v (.int .i64 0)), (.v (.int .i64 0))] [(0, 1, (.con (.v (.int .i64 2))))], (some 31), none, [], none⟩,
  ⟨.bslice 1 2 [(.v (.int .i64 0)), (.v (.int .i64 0))] [(0, 2, (.tmp 31))], (some 32), none, [1], none⟩,
  ⟨.append 53 2 16 (.tmp 30) (.tmp 32), (some 33), none, [0, 2], none⟩,
  ⟨.mov (.tmp 33), (some 9), none, [3, 3, 0, 1, 2, 3], none⟩]
def d31r8 : List RO := [
  ⟨.bin .add (.tmp 21) (.con (.v (.int .i64 1))), (some 34), none, [], none⟩,
  ⟨.mov (.tmp 34), (some 21), none, [0], none⟩]
def d31r9 : List RO := [
  ⟨.mov (.tmp 8), (some 35), none, [], none⟩,
  ⟨.mov (.tmp 9), (some 36), none, [], none⟩,
  ⟨.mov (.tmp 35), (some 6), none, [0, 0], none⟩,
  ⟨.mov (.tmp 36), (some 7), none, [1, 2, 0, 1, 2], none⟩]
def d31 : DC := (.seq (.region false d31r0)
  (.seq (.region false d31r1)
  (.seq (.region false d31r2)
  (.seq (.seq (.region false d31r3)
  (.block 0 (.loop (.seq (.region false d31r4)
  (.seq (.cond (.tmp 22) .skip
  (.exit 0))
  (.seq (.block 1 (.seq (.region false d31r5)
  (.seq (.region false d31r6)
  (.region false d31r7))))
  (.region false d31r8)))))))
  (.seq (.region false d31r9)
  .ret)))))
def d31res : List DRes := [.slot 6, .slot 7]
theorem c31 [Laid] : CodeOf Tryd.prog 23 37 d31 d31res := ⟨Tryd.f23, by kernel_rfl, by kernel_rfl, by kernel_rfl, by kernel_rfl, by kernel_rfl⟩
-- (*emendate/lattice.builder).reads
def d47r0 : List RO := [
  ⟨.mov (.tmp 0), (some 12), none, [], none⟩,
  ⟨.nilCheck (.tmp 12), (some 13), none, [0], none⟩,
  ⟨.addOff 0 (.tmp 13), (some 14), none, [1], none⟩,
  ⟨.addOff 0 (.tmp 14), (some 15), none, [2], none⟩,
  ⟨.load 1 false (.tmp 15), (some 16), none, [3], none⟩,
  ⟨.mov (.tmp 2), (some 17), none, [], none⟩,
  ⟨.idxAddr 3 (.tmp 16) (.tmp 17), (some 18), none, [4, 5], none⟩,
  ⟨.addOff 1 (.tmp 18), (some 19), none, [6], none⟩,
  ⟨.load 1 false (.tmp 19), (some 20), none, [7], none⟩,
  ⟨.len (.tmp 20), (some 21), none, [8], none⟩,
  ⟨.mov (.con (.v (.int .i64 0))), (some 22), none, [], none⟩]
def d47r1 : List RO := [
  ⟨.bin .lss (.tmp 22) (.tmp 21), (some 23), none, [], none⟩]
def d47r2 : List RO := [
  ⟨.mov (.tmp 22), (some 24), none, [], none⟩,
  ⟨.idxAddr 1 (.tmp 20) (.tmp 22), (some 25), none, [], none⟩,
  ⟨.load 1 false (.tmp 25), (some 26), none, [1], none⟩,
  ⟨.mov (.tmp 24), (some 10), none, [0, 0, 1, 2], none⟩,
  ⟨.mov (.tmp 26), (some 11), none, [2, 3, 0, 1, 2, 3], none⟩]
def d47r3 : List RO := [
  ⟨.mov (.tmp 11), (some 27), none, [], none⟩,
  ⟨.bin .geq (.tmp 27) (.con (.v (.int .i64 0))), (some 28), none, [0], none⟩]
def d47r4 : List RO := [
  ⟨.mov (.tmp 0), (some 29), none, [], none⟩,
  ⟨.mov (.tmp 1), (some 30), none, [], none⟩,
  ⟨.bin .mul (.con (.v (.int .i64 2))) (.tmp 30), (some 31), none, [1], none⟩,
  ⟨.mov (.tmp 2), (some 32), none, [], none⟩,
  ⟨.bin .mul (.con (.v (.int .i64 2))) (.tmp 32), (some 33), none, [3], none⟩,
  ⟨.bin .add (.tmp 33) (.con (.v (.int .i64 2))), (some 34), none, [4], none⟩,
  ⟨.mov (.tmp 10), (some 35), none, [], none⟩,
  ⟨.mov (.tmp 3), (some 36), none, [], none⟩,
  ⟨.mov (.tmp 11), (some 37), none, [], none⟩,
  ⟨.bin .add (.tmp 36) (.tmp 37), (some 38), none, [7, 8], none⟩,
  ⟨.mov (.tmp 4), (some 39), none, [], none⟩,
  ⟨.call 36 [(.tmp 39)], (some 40), none, [10], none⟩,
  ⟨.mov (.tmp 10), (some 41), none, [], none⟩,
  ⟨.build [(.v (.int .i64 0)), (.v (.int .i64 0))] [(0, 1, (.con (.v (.int .i64 1)))), (1, 1, (.tmp 41))], (some 42), none, [12], none⟩,
  ⟨.bslice 1 2 [(.v (.int .i64 0)), (.v (.int .i64 0))] [(0, 2, (.tmp 42))], (some 43), none, [13], none⟩,
  ⟨.append 53 2 16 (.tmp 40) (.tmp 43), (some 44), none, [11, 14, 11], none⟩,
  ⟨.build [(.v (.int .i64 0)), (.v (.int .i64 0)), (.v (.int .i64 0)), (.v (.int .i64 0)), .nil0] [(0, 1, (.tmp 31)), (1, 1, (.tmp 34)), (2, 1, (.tmp 35)), (3, 1, (.tmp 38)), (4, 1, (.tmp 44))], (some 45), none, [2, 5, 6, 9, 15], none⟩,
  ⟨.call 35 [(.tmp 29), (.tmp 45)], (some 46), none, [0, 16, 15], none⟩]
def d47r4S : List RO := [
  ⟨.mov (.tmp 0), (some 29), none, [], none⟩,
  ⟨.mov (.tmp 1), (some 30), none, [], none⟩,
  ⟨.bin .mul (.con (.v (.int .i64 2))) (.tmp 30), (some 31), none, [1], none⟩,
  ⟨.mov (.tmp 2), (some 32), none, [], none⟩,
  ⟨.bin .mul (.con (.v (.int .i64 2))) (.tmp 32), (some 33), none, [3], none⟩,
  ⟨.bin .add (.tmp 33) (.con (.v (.int .i64 2))), (some 34), none, [4], none⟩,
  ⟨.mov (.tmp 10), (some 35), none, [], none⟩,
  ⟨.mov (.tmp 3), (some 36), none, [], none⟩,
  ⟨.mov (.tmp 11), (some 37), none, [], none⟩,
  ⟨.bin .add (.tmp 36) (.tmp 37), (some 38), none, [7, 8], none⟩,
  ⟨.mov (.tmp 4), (some 39), none, [], none⟩,
  ⟨.callF 36 [(.tmp 39)], (some 40), none, [10], none⟩,
  ⟨.mov (.tmp 10), (some 41), none, [], none⟩,
  ⟨.build [(.v (.int .i64 0)), (.v (.int .i64 0))] [(0, 1, (.con (.v (.int .i64 1)))), (1, 1, (.tmp 41))], (some 42), none, [12], none⟩,
  ⟨.bslice 1 2 [(.v (.int .i64 0)), (.v (.int .i64 0))] [(0, 2, (.tmp 42))], (some 43), none, [13], none⟩,
  ⟨.append 53 2 16 (.tmp 40) (.tmp 43), (some 44), none, [11, 14, 11], none⟩,
  ⟨.build [(.v (.int .i64 0)), (.v (.int .i64 0)), (.v (.int .i64 0)), (.v (.int .i64 0)), .nil0] [(0, 1, (.tmp 31)), (1, 1, (.tmp 34)), (2, 1, (.tmp 35)), (3, 1, (.tmp 38)), (4, 1, (.tmp 44))], (some 45), none, [2, 5, 6, 9, 15], none⟩,
  ⟨.callS 35 [(.tmp 29), (.tmp 45)], (some 46), none, [0, 16, 15], none⟩]
def d47r5 : List RO := [
  ⟨.bin .add (.tmp 22) (.con (.v (.int .i64 1))), (some 47), none, [], none⟩,
  ⟨.mov (.tmp 47), (some 22), none, [0], none⟩]
def d47 : DC := (.seq (.region false d47r0)
  (.block 0 (.loop (.seq (.region false d47r1)
  (.seq (.cond (.tmp 23) .skip
  (.exit 0))
  (.seq (.block 1 (.seq (.region false d47r2)
  (.seq (.region false d47r3)
  (.cond (.tmp 28) (.region false d47r4)
  .skip))))
  (.region false d47r5)))))))
def d47res : List DRes := []
theorem c47 [Laid] : CodeOf Tryd.prog 34 48 d47 d47res := ⟨Tryd.f34, by kernel_rfl, by kernel_rfl, by kernel_rfl, by kernel_rfl, by kernel_rfl⟩
-- (*emendate/lattice.builder).add
def d48r0 : List RO := [
  ⟨.box (.tmp 1), (some 3), none, [], none⟩]
def d48r1 : List RO := [
  ⟨.addOff 0 (.tmp 3), (some 7), none, [], none⟩,
  ⟨.load 1 false (.tmp 7), (some 8), none, [0], none⟩,
  ⟨.addOff 1 (.tmp 3), (some 9), none, [], none⟩,
  ⟨.load 1 false (.tmp 9), (some 10), none, [2], none⟩,
  ⟨.addOff 2 (.tmp 3), (some 11), none, [], none⟩,
  ⟨.load 1 false (.tmp 11), (some 12), none, [4], none⟩,
  ⟨.build [(.v (.int .i64 0)), (.v (.int .i64 0)), (.v (.int .i64 0))] [(0, 1, (.tmp 8)), (1, 1, (.tmp 10)), (2, 1, (.tmp 12))], (some 13), none, [1, 3, 5], none⟩,
  ⟨.alloc [(.v (.int .i64 0)), (.v (.int .i64 0)), (.v (.int .i64 0))], (some 4), none, [], none⟩,
  ⟨.store 3 (.tmp 4) (.tmp 13), none, none, [7, 6, 0, 1, 2, 3, 4, 5, 6, 7], none⟩]
def d48r2 : List RO := [
  ⟨.mov (.tmp 0), (some 15), none, [], none⟩,
  ⟨.nilCheck (.tmp 15), (some 16), none, [0], none⟩,
  ⟨.addOff 3 (.tmp 16), (some 17), none, [1], none⟩,
  ⟨.load 1 false (.tmp 17), (some 18), none, [2], none⟩,
  ⟨.load 3 true (.tmp 4), (some 19), none, [], none⟩,
  ⟨.lookup [(.int .i64), (.int .i64), (.int .i64)] true (.agg [(.v (.int .i64 0)), (.v (.int .i64 0)), (.v (.int .i64 0)), (.v (.int .i64 0)), .nil0]) true (.tmp 18) (.tmp 19), (some 20), none, [3, 4], none⟩,
  ⟨.mov (.tmp 20), (some 14), none, [5], none⟩,
  ⟨.extract 0 (.tmp 14), (some 21), none, [6], none⟩,
  ⟨.extract 1 (.tmp 14), (some 22), none, [6], none⟩,
  ⟨.alloc [(.v (.int .i64 0)), (.v (.int .i64 0)), (.v (.int .i64 0)), (.v (.int .i64 0)), .nil0], (some 5), none, [], none⟩,
  ⟨.store 5 (.tmp 5) (.tmp 21), none, none, [9, 7, 0, 1, 2, 3, 4, 5, 6, 7, 9], none⟩,
  ⟨.mov (.tmp 22), (some 6), none, [8, 10, 0, 1, 2, 3, 4, 5, 6, 7, 8, 9, 10], none⟩]
def d48r3 : List RO := [
  ⟨.addOff 3 (.tmp 3), (some 23), none, [], none⟩,
  ⟨.load 1 false (.tmp 23), (some 24), none, [0], none⟩,
  ⟨.bin .lss (.tmp 24) (.con (.v (.int .i64 1099511627776))), (some 25), none, [1], none⟩,
  ⟨.mov (.tmp 25), (some 26), none, [2], none⟩,
  ⟨.mov (.tmp 6), (some 27), (some (26, true)), [3], none⟩,
  ⟨.un .not (.tmp 27), (some 28), (some (26, true)), [4, 3], none⟩,
  ⟨.mov (.tmp 28), (some 29), (some (26, true)), [5, 3, 3], none⟩,
  ⟨.addOff 3 (.tmp 3), (some 30), (some (29, false)), [6], none⟩,
  ⟨.load 1 false (.tmp 30), (some 31), (some (29, false)), [7, 6], none⟩,
  ⟨.addOff 3 (.tmp 5), (some 32), (some (29, false)), [6], none⟩,
  ⟨.load 1 false (.tmp 32), (some 33), (some (29, false)), [9, 6], none⟩,
  ⟨.bin .lss (.tmp 31) (.tmp 33), (some 34), (some (29, false)), [8, 10, 6], none⟩,
  ⟨.pick (.tmp 29) (.con (.v (.bool true))) (.tmp 34), (some 35), (some (26, true)), [6, 11, 3], none⟩,
  ⟨.pick (.tmp 26) (.tmp 35) (.con (.v (.bool false))), (some 36), none, [3, 12], none⟩]
def d48r4 : List RO := [
  ⟨.mov (.tmp 0), (some 37), none, [], none⟩,
  ⟨.nilCheck (.tmp 37), (some 38), none, [0], none⟩,
  ⟨.addOff 3 (.tmp 38), (some 39), none, [1], none⟩,
  ⟨.load 1 false (.tmp 39), (some 40), none, [2], none⟩,
  ⟨.load 3 true (.tmp 4), (some 41), none, [], none⟩,
  ⟨.load 5 true (.tmp 3), (some 42), none, [], none⟩,
  ⟨.mapUpd [(.int .i64), (.int .i64), (.int .i64)] true (.tmp 40) (.tmp 41) (.tmp 42), none, none, [3, 4, 5, 0, 1, 2, 3, 4, 5], none⟩]
def d48 : DC := (.seq (.region false d48r0)
  (.seq (.region false d48r1)
  (.seq (.region true d48r2)
  (.seq (.region false d48r3)
  (.cond (.tmp 36) (.region true d48r4)
  .skip)))))
def d48res : List DRes := []
theorem c48 [Laid] : CodeOf Tryd.prog 35 43 d48 d48res := ⟨Tryd.f35, by kernel_rfl, by kernel_rfl, by kernel_rfl, by kernel_rfl, by kernel_rfl⟩
-- slices.Clone[[]emendate/api.Op,emendate/api.Op]
def d49r0 : List RO := [
  ⟨.mov (.con .nil0), (some 2), none, [], none⟩]
def d49r1 : List RO := [
  ⟨.mov (.tmp 0), (some 3), none, [], none⟩,
  ⟨.isNil 0 false (.tmp 3), (some 4), none, [0], none⟩]
def d49r2 : List RO := [
  ⟨.mov (.con .nil0), (some 2), none, [], none⟩]
def d49r3 : List RO := [
  ⟨.bslice 0 2 [] [], (some 5), none, [], none⟩,
  ⟨.mov (.tmp 0), (some 6), none, [], none⟩,
  ⟨.append 53 2 16 (.tmp 5) (.tmp 6), (some 7), none, [0, 1], none⟩,
  ⟨.mov (.tmp 7), (some 2), none, [2, 2, 0, 1, 2], none⟩]
def d49 : DC := (.seq (.region false d49r0)
  (.seq (.seq (.region false d49r1)
  (.cond (.tmp 4) (.seq (.region false d49r2)
  .ret)
  .skip))
  (.seq (.region false d49r3)
  .ret)))
def d49res : List DRes := [.slot 2]
theorem c49 [Laid] : CodeOf Tryd.prog 36 8 d49 d49res := ⟨Tryd.f36, by kernel_rfl, by kernel_rfl, by kernel_rfl, by kernel_rfl, by kernel_rfl⟩
-- (*emendate/lattice.builder).swap
def d50r0 : List RO := [
  ⟨.mov (.con (.v (.bool false))), (some 4), none, [], none⟩]
def d50r1 : List RO := [
  ⟨.mov (.tmp 0), (some 6), none, [], none⟩,
  ⟨.nilCheck (.tmp 6), (some 7), none, [0], none⟩,
  ⟨.addOff 0 (.tmp 7), (some 8), none, [1], none⟩,
  ⟨.addOff 0 (.tmp 8), (some 9), none, [2], none⟩,
  ⟨.load 1 false (.tmp 9), (some 10), none, [3], none⟩,
  ⟨.mov (.tmp 10), (some 5), none, [4, 0, 1, 2, 3, 4], none⟩]
def d50r2 : List RO := [
  ⟨.mov (.tmp 1), (some 11), none, [], none⟩,
  ⟨.bin .add (.tmp 11) (.con (.v (.int .i64 1))), (some 12), none, [0], none⟩,
  ⟨.mov (.tmp 5), (some 13), none, [], none⟩,
  ⟨.len (.tmp 13), (some 14), none, [2], none⟩,
  ⟨.bin .lss (.tmp 12) (.tmp 14), (some 15), none, [1, 3], none⟩,
  ⟨.mov (.tmp 15), (some 16), none, [4], none⟩,
  ⟨.mov (.tmp 0), (some 17), (some (16, true)), [5], none⟩,
  ⟨.nilCheck (.tmp 17), (some 18), (some (16, true)), [6, 5], none⟩,
  ⟨.addOff 0 (.tmp 18), (some 19), (some (16, true)), [7, 5], none⟩,
  ⟨.addOff 2 (.tmp 19), (some 20), (some (16, true)), [8, 5], none⟩,
  ⟨.load 1 false (.tmp 20), (some 21), (some (16, true)), [9, 5], none⟩,
  ⟨.bin .gtr (.tmp 21) (.con (.v (.int .i64 0))), (some 22), (some (16, true)), [10, 5], none⟩,
  ⟨.pick (.tmp 16) (.tmp 22) (.con (.v (.bool false))), (some 23), none, [5, 11], none⟩,
  ⟨.mov (.tmp 23), (some 24), none, [12, 5], none⟩,
  ⟨.mov (.tmp 5), (some 25), (some (24, true)), [13], none⟩,
  ⟨.mov (.tmp 1), (some 26), (some (24, true)), [13], none⟩,
  ⟨.idxAddr 3 (.tmp 25) (.tmp 26), (some 27), (some (24, true)), [14, 15, 13], none⟩,
  ⟨.addOff 0 (.tmp 27), (some 28), (some (24, true)), [16, 13], none⟩,
  ⟨.load 1 false (.tmp 28), (some 29), (some (24, true)), [17, 13], none⟩,
  ⟨.bin .geq (.tmp 29) (.con (.v (.int .i64 0))), (some 30), (some (24, true)), [18, 13], none⟩,
  ⟨.pick (.tmp 24) (.tmp 30) (.con (.v (.bool false))), (some 31), none, [13, 19], none⟩,
  ⟨.mov (.tmp 31), (some 32), none, [20, 13], none⟩,
  ⟨.mov (.tmp 5), (some 33), (some (32, true)), [21], none⟩,
  ⟨.mov (.tmp 1), (some 34), (some (32, true)), [21], none⟩,
  ⟨.bin .add (.tmp 34) (.con (.v (.int .i64 1))), (some 35), (some (32, true)), [23, 21], none⟩,
  ⟨.idxAddr 3 (.tmp 33) (.tmp 35), (some 36), (some (32, true)), [22, 24, 21], none⟩,
  ⟨.addOff 0 (.tmp 36), (some 37), (some (32, true)), [25, 21], none⟩,
  ⟨.load 1 false (.tmp 37), (some 38), (some (32, true)), [26, 21], none⟩,
  ⟨.bin .geq (.tmp 38) (.con (.v (.int .i64 0))), (some 39), (some (32, true)), [27, 21], none⟩,
  ⟨.pick (.tmp 32) (.tmp 39) (.con (.v (.bool false))), (some 40), none, [21, 28], none⟩,
  ⟨.mov (.tmp 40), (some 4), none, [29, 21, 0, 1, 2, 3, 4, 5, 6, 7, 8, 9, 10, 11, 12, 13, 14, 15, 16, 17, 18, 19, 20, 21, 22, 23, 24, 25, 26, 27, 28, 29], none⟩]
def d50 : DC := (.seq (.region false d50r0)
  (.seq (.region false d50r1)
  (.seq (.region false d50r2)
  .ret)))
def d50res : List DRes := [.slot 4]
theorem c50 [Laid] : CodeOf Tryd.prog 37 41 d50 d50res := ⟨Tryd.f37, by kernel_rfl, by kernel_rfl, by kernel_rfl, by kernel_rfl, by kernel_rfl⟩
-- slices.Repeat[[]int,int]
def d29r0 : List RO := [
  ⟨.mov (.con .nil0), (some 4), none, [], none⟩]
def d29r1 : List RO := [
  ⟨.mov (.tmp 1), (some 9), none, [], none⟩,
  ⟨.bin .lss (.tmp 9) (.con (.v (.int .i64 0))), (some 10), none, [0], none⟩]
def d29r2 : List RO := [
  ⟨.fail, (some 11), none, [], none⟩,
  ⟨.fail, none, none, [0], none⟩]
def d29r3 : List RO := [
  ⟨.mov (.tmp 0), (some 13), none, [], none⟩,
  ⟨.len (.tmp 13), (some 14), none, [0], none⟩,
  ⟨.conv .u64 (.tmp 14), (some 15), none, [1], none⟩,
  ⟨.mov (.tmp 1), (some 16), none, [], none⟩,
  ⟨.conv .u64 (.tmp 16), (some 17), none, [3], none⟩,
  ⟨.call 33 [(.tmp 15), (.tmp 17)], (some 18), none, [2, 4], none⟩,
  ⟨.mov (.tmp 18), (some 12), none, [5], none⟩,
  ⟨.extract 0 (.tmp 12), (some 19), none, [6], none⟩,
  ⟨.extract 1 (.tmp 12), (some 20), none, [6], none⟩,
  ⟨.mov (.tmp 19), (some 5), none, [7, 5, 0, 1, 2, 3, 4, 5, 6, 7], none⟩,
  ⟨.mov (.tmp 20), (some 6), none, [8, 9, 0, 1, 2, 3, 4, 5, 6, 7, 8, 9], none⟩]
def d29r4 : List RO := [
  ⟨.mov (.tmp 5), (some 21), none, [], none⟩,
  ⟨.bin .gtr (.tmp 21) (.con (.v (.int .u64 0))), (some 22), none, [0], none⟩,
  ⟨.mov (.tmp 22), (some 23), none, [1], none⟩,
  ⟨.mov (.tmp 6), (some 24), (some (23, false)), [2], none⟩,
  ⟨.bin .gtr (.tmp 24) (.con (.v (.int .u64 9223372036854775807))), (some 25), (some (23, false)), [3, 2], none⟩,
  ⟨.pick (.tmp 23) (.con (.v (.bool true))) (.tmp 25), (some 26), none, [2, 4], none⟩]
def d29r5 : List RO := [
  ⟨.fail, (some 27), none, [], none⟩,
  ⟨.fail, none, none, [0], none⟩]
def d29r6 : List RO := [
  ⟨.mov (.tmp 6), (some 28), none, [], none⟩,
  ⟨.conv .i64 (.tmp 28), (some 29), none, [0], none⟩,
  ⟨.mkSlice 3 1 8 [(.int .i64 0)] (.tmp 29), (some 30), none, [1, 1], none⟩,
  ⟨.mov (.tmp 30), (some 7), none, [2, 0, 1, 2], none⟩]
def d29r7 : List RO := [
  ⟨.mov (.tmp 7), (some 31), none, [], none⟩,
  ⟨.mov (.tmp 0), (some 32), none, [], none⟩,
  ⟨.copy 1 (.tmp 31) (.tmp 32), (some 33), none, [0, 1], none⟩,
  ⟨.mov (.tmp 33), (some 8), none, [2, 2, 0, 1, 2], none⟩]
def d29r8 : List RO := [
  ⟨.mov (.tmp 8), (some 34), none, [], none⟩,
  ⟨.mov (.tmp 7), (some 35), none, [], none⟩,
  ⟨.len (.tmp 35), (some 36), none, [1], none⟩,
  ⟨.bin .lss (.tmp 34) (.tmp 36), (some 37), none, [0, 2], none⟩]
def d29r9 : List RO := [
  ⟨.mov (.tmp 8), (some 38), none, [], none⟩,
  ⟨.mov (.tmp 7), (some 39), none, [], none⟩,
  ⟨.mov (.tmp 8), (some 40), none, [], none⟩,
  ⟨.slice 1 (.tmp 39) (some (.tmp 40)) none, (some 41), none, [1, 2], none⟩,
  ⟨.mov (.tmp 7), (some 42), none, [], none⟩,
  ⟨.mov (.tmp 8), (some 43), none, [], none⟩,
  ⟨.slice 1 (.tmp 42) none (some (.tmp 43)), (some 44), none, [4, 5], none⟩,
  ⟨.copy 1 (.tmp 41) (.tmp 44), (some 45), none, [3, 6], none⟩,
  ⟨.bin .add (.tmp 38) (.tmp 45), (some 46), none, [0, 7], none⟩,
  ⟨.mov (.tmp 46), (some 8), none, [8, 7, 0, 1, 2, 3, 4, 5, 6, 7, 8], none⟩]
def d29r10 : List RO := [
  ⟨.mov (.tmp 7), (some 47), none, [], none⟩,
  ⟨.mov (.tmp 47), (some 4), none, [0, 0], none⟩]
def d29 : DC := (.seq (.region false d29r0)
  (.seq (.seq (.region false d29r1)
  (.cond (.tmp 10) (.region false d29r2)
  .skip))
  (.seq (.region false d29r3)
  (.seq (.seq (.region false d29r4)
  (.cond (.tmp 26) (.region false d29r5)
  .skip))
  (.seq (.region false d29r6)
  (.seq (.region false d29r7)
  (.seq (.block 0 (.loop (.seq (.seq (.region false d29r8)
  (.cond (.tmp 37) .skip
  (.exit 0)))
  (.block 1 (.region true d29r9)))))
  (.seq (.region false d29r10)
  .ret))))))))
def d29res : List DRes := [.slot 4]
theorem c29 [Laid] : CodeOf Tryd.prog 21 48 d29 d29res := ⟨Tryd.f21, by kernel_rfl, by kernel_rfl, by kernel_rfl, by kernel_rfl, by kernel_rfl⟩
-- emendate/lattice.compare
def d33r0 : List RO := [
  ⟨.box (.tmp 0), (some 2), none, [], none⟩,
  ⟨.box (.tmp 1), (some 3), none, [], none⟩,
  ⟨.mov (.con (.v (.int .i64 0))), (some 4), none, [], none⟩]
def d33r1 : List RO := [
  ⟨.addOff 0 (.tmp 2), (some 5), none, [], none⟩,
  ⟨.load 1 false (.tmp 5), (some 6), none, [0], none⟩,
  ⟨.addOff 0 (.tmp 3), (some 7), none, [], none⟩,
  ⟨.load 1 false (.tmp 7), (some 8), none, [2], none⟩,
  ⟨.call 41 [(.tmp 6), (.tmp 8)], (some 9), none, [1, 3], none⟩,
  ⟨.addOff 1 (.tmp 2), (some 10), none, [], none⟩,
  ⟨.load 1 false (.tmp 10), (some 11), none, [5], none⟩,
  ⟨.addOff 1 (.tmp 3), (some 12), none, [], none⟩,
  ⟨.load 1 false (.tmp 12), (some 13), none, [7], none⟩,
  ⟨.call 41 [(.tmp 11), (.tmp 13)], (some 14), none, [6, 8, 4], none⟩,
  ⟨.addOff 2 (.tmp 2), (some 15), none, [], none⟩,
  ⟨.load 1 false (.tmp 15), (some 16), none, [10], none⟩,
  ⟨.addOff 2 (.tmp 3), (some 17), none, [], none⟩,
  ⟨.load 1 false (.tmp 17), (some 18), none, [12], none⟩,
  ⟨.call 41 [(.tmp 16), (.tmp 18)], (some 19), none, [11, 13, 9], none⟩,
  ⟨.bslice 3 1 [(.v (.int .i64 0)), (.v (.int .i64 0)), (.v (.int .i64 0))] [(0, 1, (.tmp 9)), (1, 1, (.tmp 14)), (2, 1, (.tmp 19))], (some 20), none, [4, 9, 14], none⟩,
  ⟨.call 40 [(.tmp 20)], (some 21), none, [15, 14], none⟩,
  ⟨.mov (.tmp 21), (some 4), none, [16, 16, 0, 1, 2, 3, 4, 5, 6, 7, 8, 9, 10, 11, 12, 13, 14, 15, 16], none⟩]
def d33 : DC := (.seq (.region false d33r0)
  (.seq (.region true d33r1)
  .ret))
def d33res : List DRes := [.slot 4]
theorem c33 [Laid] : CodeOf Tryd.prog 25 22 d33 d33res := ⟨Tryd.f25, by kernel_rfl, by kernel_rfl, by kernel_rfl, by kernel_rfl, by kernel_rfl⟩
-- cmp.Or[int]
def d53r0 : List RO := [
  ⟨.mov (.con (.v (.int .i64 0))), (some 2), none, [], none⟩]
def d53r1 : List RO := [
  ⟨.mov (.con (.v (.int .i64 0))), (some 3), none, [], none⟩]
def d53r2 : List RO := [
  ⟨.mov (.tmp 0), (some 6), none, [], none⟩,
  ⟨.len (.tmp 6), (some 7), none, [0], none⟩,
  ⟨.mov (.con (.v (.int .i64 0))), (some 8), none, [], none⟩]
def d53r3 : List RO := [
  ⟨.bin .lss (.tmp 8) (.tmp 7), (some 9), none, [], none⟩]
def d53r4 : List RO := [
  ⟨.idxAddr 1 (.tmp 6) (.tmp 8), (some 10), none, [], none⟩,
  ⟨.load 1 false (.tmp 10), (some 11), none, [0], none⟩,
  ⟨.mov (.tmp 11), (some 5), none, [1, 0, 1], none⟩]
def d53r5 : List RO := [
  ⟨.mov (.tmp 5), (some 12), none, [], none⟩,
  ⟨.mov (.tmp 3), (some 13), none, [], none⟩,
  ⟨.bin .neq (.tmp 12) (.tmp 13), (some 14), none, [0, 1], none⟩]
def d53r6 : List RO := [
  ⟨.mov (.tmp 5), (some 15), none, [], none⟩,
  ⟨.mov (.tmp 15), (some 2), none, [0, 0], none⟩]
def d53r7 : List RO := [
  ⟨.bin .add (.tmp 8) (.con (.v (.int .i64 1))), (some 16), none, [], none⟩,
  ⟨.mov (.tmp 16), (some 8), none, [0], none⟩]
def d53r8 : List RO := [
  ⟨.mov (.tmp 3), (some 17), none, [], none⟩,
  ⟨.mov (.tmp 17), (some 2), none, [0, 0], none⟩]
def d53 : DC := (.seq (.region false d53r0)
  (.seq (.region false d53r1)
  (.seq (.seq (.region false d53r2)
  (.block 0 (.loop (.seq (.region false d53r3)
  (.seq (.cond (.tmp 9) .skip
  (.exit 0))
  (.seq (.block 1 (.seq (.region false d53r4)
  (.seq (.region false d53r5)
  (.cond (.tmp 14) (.seq (.region false d53r6)
  .ret)
  .skip))))
  (.region false d53r7)))))))
  (.seq (.region false d53r8)
  .ret))))
def d53res : List DRes := [.slot 2]
theorem c53 [Laid] : CodeOf Tryd.prog 40 18 d53 d53res := ⟨Tryd.f40, by kernel_rfl, by kernel_rfl, by kernel_rfl, by kernel_rfl, by kernel_rfl⟩
-- cmp.Compare[int]
def d54r0 : List RO := [
  ⟨.mov (.con (.v (.int .i64 0))), (some 4), none, [], none⟩]
def d54r1 : List RO := [
  ⟨.mov (.tmp 0), (some 7), none, [], none⟩,
  ⟨.call 56 [(.tmp 7)], (some 8), none, [0], none⟩,
  ⟨.mov (.tmp 8), (some 5), none, [1, 1, 0, 1], none⟩]
def d54r2 : List RO := [
  ⟨.mov (.tmp 1), (some 9), none, [], none⟩,
  ⟨.call 56 [(.tmp 9)], (some 10), none, [0], none⟩,
  ⟨.mov (.tmp 10), (some 6), none, [1, 1, 0, 1], none⟩]
def d54r3 : List RO := [
  ⟨.mov (.tmp 5), (some 11), none, [], none⟩]
def d54r4 : List RO := [
  ⟨.mov (.tmp 6), (some 12), none, [], none⟩]
def d54r5 : List RO := [
  ⟨.mov (.con (.v (.int .i64 0))), (some 4), none, [], none⟩]
def d54r6 : List RO := [
  ⟨.mov (.con (.v (.int .i64 (-1)))), (some 4), none, [], none⟩]
def d54r7 : List RO := [
  ⟨.mov (.tmp 6), (some 13), none, [], none⟩]
def d54r8 : List RO := [
  ⟨.mov (.con (.v (.int .i64 1))), (some 4), none, [], none⟩]
def d54r9 : List RO := [
  ⟨.mov (.tmp 0), (some 14), none, [], none⟩,
  ⟨.mov (.tmp 1), (some 15), none, [], none⟩,
  ⟨.bin .lss (.tmp 14) (.tmp 15), (some 16), none, [0, 1], none⟩]
def d54r10 : List RO := [
  ⟨.mov (.con (.v (.int .i64 (-1)))), (some 4), none, [], none⟩]
def d54r11 : List RO := [
  ⟨.mov (.tmp 0), (some 17), none, [], none⟩,
  ⟨.mov (.tmp 1), (some 18), none, [], none⟩,
  ⟨.bin .gtr (.tmp 17) (.tmp 18), (some 19), none, [0, 1], none⟩]
def d54r12 : List RO := [
  ⟨.mov (.con (.v (.int .i64 1))), (some 4), none, [], none⟩]
def d54r13 : List RO := [
  ⟨.mov (.con (.v (.int .i64 0))), (some 4), none, [], none⟩]
def d54 : DC := (.seq (.region false d54r0)
  (.seq (.region false d54r1)
  (.seq (.region false d54r2)
  (.seq (.seq (.region false d54r3)
  (.cond (.tmp 11) (.seq (.seq (.region false d54r4)
  (.cond (.tmp 12) (.seq (.region false d54r5)
  .ret)
  .skip))
  (.seq (.region false d54r6)
  .ret))
  .skip))
  (.seq (.seq (.region false d54r7)
  (.cond (.tmp 13) (.seq (.region false d54r8)
  .ret)
  .skip))
  (.seq (.seq (.region false d54r9)
  (.cond (.tmp 16) (.seq (.region false d54r10)
  .ret)
  .skip))
  (.seq (.seq (.region false d54r11)
  (.cond (.tmp 19) (.seq (.region false d54r12)
  .ret)
  .skip))
  (.seq (.region false d54r13)
  .ret))))))))
def d54res : List DRes := [.slot 4]
theorem c54 [Laid] : CodeOf Tryd.prog 41 20 d54 d54res := ⟨Tryd.f41, by kernel_rfl, by kernel_rfl, by kernel_rfl, by kernel_rfl, by kernel_rfl⟩
-- cmp.isNaN[int]
def d71r0 : List RO := [
  ⟨.mov (.con (.v (.bool false))), (some 2), none, [], none⟩]
def d71r1 : List RO := [
  ⟨.mov (.tmp 0), (some 3), none, [], none⟩,
  ⟨.mov (.tmp 0), (some 4), none, [], none⟩,
  ⟨.bin .neq (.tmp 3) (.tmp 4), (some 5), none, [0, 1], none⟩,
  ⟨.mov (.tmp 5), (some 2), none, [2, 0, 1, 2], none⟩]
def d71 : DC := (.seq (.region false d71r0)
  (.seq (.region false d71r1)
  .ret))
def d71res : List DRes := [.slot 2]
theorem c71 [Laid] : CodeOf Tryd.prog 56 6 d71 d71res := ⟨Tryd.f56, by kernel_rfl, by kernel_rfl, by kernel_rfl, by kernel_rfl, by kernel_rfl⟩
-- slices.SortFunc[[]emendate/lattice.key,emendate/lattice.key]
-- math/bits.Mul
def d46r0 : List RO := [
  ⟨.mov (.con (.v (.int .u64 0))), (some 4), none, [], none⟩,
  ⟨.mov (.con (.v (.int .u64 0))), (some 5), none, [0], none⟩]
def d46r1 : List RO := [
  ⟨.mov (.tmp 0), (some 11), none, [], none⟩,
  ⟨.conv .u32 (.tmp 11), (some 12), none, [0], none⟩,
  ⟨.mov (.tmp 1), (some 13), none, [], none⟩,
  ⟨.conv .u32 (.tmp 13), (some 14), none, [2], none⟩,
  ⟨.call 44 [(.tmp 12), (.tmp 14)], (some 15), none, [1, 3], none⟩,
  ⟨.mov (.tmp 15), (some 10), none, [4], none⟩,
  ⟨.extract 0 (.tmp 10), (some 16), none, [5], none⟩,
  ⟨.extract 1 (.tmp 10), (some 17), none, [5], none⟩,
  ⟨.mov (.tmp 16), (some 6), none, [6, 4, 0, 1, 2, 3, 4, 5, 6], none⟩,
  ⟨.mov (.tmp 17), (some 7), none, [7, 8, 0, 1, 2, 3, 4, 5, 6, 7, 8], none⟩]
def d46r2 : List RO := [
  ⟨.mov (.tmp 6), (some 18), none, [], none⟩,
  ⟨.conv .u64 (.tmp 18), (some 19), none, [0], none⟩,
  ⟨.mov (.tmp 7), (some 20), none, [], none⟩,
  ⟨.conv .u64 (.tmp 20), (some 21), none, [2], none⟩,
  ⟨.mov (.tmp 19), (some 4), none, [1, 0, 1], none⟩,
  ⟨.mov (.tmp 21), (some 5), none, [3, 4, 0, 1, 2, 3, 4], none⟩]
def d46r3 : List RO := [
  ⟨.mov (.tmp 0), (some 23), none, [], none⟩,
  ⟨.mov (.tmp 1), (some 24), none, [], none⟩,
  ⟨.call 45 [(.tmp 23), (.tmp 24)], (some 25), none, [0, 1], none⟩,
  ⟨.mov (.tmp 25), (some 22), none, [2], none⟩,
  ⟨.extract 0 (.tmp 22), (some 26), none, [3], none⟩,
  ⟨.extract 1 (.tmp 22), (some 27), none, [3], none⟩,
  ⟨.mov (.tmp 26), (some 8), none, [4, 2, 0, 1, 2, 3, 4], none⟩,
  ⟨.mov (.tmp 27), (some 9), none, [5, 6, 0, 1, 2, 3, 4, 5, 6], none⟩]
def d46r4 : List RO := [
  ⟨.mov (.tmp 8), (some 28), none, [], none⟩,
  ⟨.mov (.tmp 9), (some 29), none, [], none⟩,
  ⟨.mov (.tmp 28), (some 4), none, [0, 0], none⟩,
  ⟨.mov (.tmp 29), (some 5), none, [1, 2, 0, 1, 2], none⟩]
def d46 : DC := (.seq (.region false d46r0)
  (.seq (.cond (.con (.v (.bool false))) (.seq (.region false d46r1)
  (.seq (.region false d46r2)
  .ret))
  .skip)
  (.seq (.region false d46r3)
  (.seq (.region false d46r4)
  .ret))))
def d46res : List DRes := [.slot 4, .slot 5]
theorem c46 [Laid] : CodeOf Tryd.prog 33 30 d46 d46res := ⟨Tryd.f33, by kernel_rfl, by kernel_rfl, by kernel_rfl, by kernel_rfl, by kernel_rfl⟩
-- math/bits.Len
-- math/bits.Mul64
def d60r0 : List RO := [
  ⟨.mov (.con (.v (.int .u64 0))), (some 4), none, [], none⟩,
  ⟨.mov (.con (.v (.int .u64 0))), (some 5), none, [0], none⟩]
def d60r1 : List RO := [
  ⟨.mov (.tmp 0), (some 14), none, [], none⟩,
  ⟨.bin .and (.tmp 14) (.con (.v (.int .u64 4294967295))), (some 15), none, [0], none⟩,
  ⟨.mov (.tmp 15), (some 6), none, [1, 0, 1], none⟩]
def d60r2 : List RO := [
  ⟨.mov (.tmp 0), (some 16), none, [], none⟩,
  ⟨.bin .shr (.tmp 16) (.con (.v (.int .u64 32))), (some 17), none, [0], none⟩,
  ⟨.mov (.tmp 17), (some 7), none, [1, 0, 1], none⟩]
def d60r3 : List RO := [
  ⟨.mov (.tmp 1), (some 18), none, [], none⟩,
  ⟨.bin .and (.tmp 18) (.con (.v (.int .u64 4294967295))), (some 19), none, [0], none⟩,
  ⟨.mov (.tmp 19), (some 8), none, [1, 0, 1], none⟩]
def d60r4 : List RO := [
  ⟨.mov (.tmp 1), (some 20), none, [], none⟩,
  ⟨.bin .shr (.tmp 20) (.con (.v (.int .u64 32))), (some 21), none, [0], none⟩,
  ⟨.mov (.tmp 21), (some 9), none, [1, 0, 1], none⟩]
def d60r5 : List RO := [
  ⟨.mov (.tmp 6), (some 22), none, [], none⟩,
  ⟨.mov (.tmp 8), (some 23), none, [], none⟩,
  ⟨.bin .mul (.tmp 22) (.tmp 23), (some 24), none, [0, 1], none⟩,
  ⟨.mov (.tmp 24), (some 10), none, [2, 0, 1, 2], none⟩]
def d60r6 : List RO := [
  ⟨.mov (.tmp 7), (some 25), none, [], none⟩,
  ⟨.mov (.tmp 8), (some 26), none, [], none⟩,
  ⟨.bin .mul (.tmp 25) (.tmp 26), (some 27), none, [0, 1], none⟩,
  ⟨.mov (.tmp 10), (some 28), none, [], none⟩,
  ⟨.bin .shr (.tmp 28) (.con (.v (.int .u64 32))), (some 29), none, [3], none⟩,
  ⟨.bin .add (.tmp 27) (.tmp 29), (some 30), none, [2, 4], none⟩,
  ⟨.mov (.tmp 30), (some 11), none, [5, 0, 1, 2, 3, 4, 5], none⟩]
def d60r7 : List RO := [
  ⟨.mov (.tmp 11), (some 31), none, [], none⟩,
  ⟨.bin .and (.tmp 31) (.con (.v (.int .u64 4294967295))), (some 32), none, [0], none⟩,
  ⟨.mov (.tmp 32), (some 12), none, [1, 0, 1], none⟩]
def d60r8 : List RO := [
  ⟨.mov (.tmp 11), (some 33), none, [], none⟩,
  ⟨.bin .shr (.tmp 33) (.con (.v (.int .u64 32))), (some 34), none, [0], none⟩,
  ⟨.mov (.tmp 34), (some 13), none, [1, 0, 1], none⟩]
def d60r9 : List RO := [
  ⟨.mov (.tmp 12), (some 35), none, [], none⟩,
  ⟨.mov (.tmp 6), (some 36), none, [], none⟩,
  ⟨.mov (.tmp 9), (some 37), none, [], none⟩,
  ⟨.bin .mul (.tmp 36) (.tmp 37), (some 38), none, [1, 2], none⟩,
  ⟨.bin .add (.tmp 35) (.tmp 38), (some 39), none, [0, 3], none⟩,
  ⟨.mov (.tmp 39), (some 12), none, [4, 0, 1, 2, 3, 4], none⟩]
def d60r10 : List RO := [
  ⟨.mov (.tmp 7), (some 40), none, [], none⟩,
  ⟨.mov (.tmp 9), (some 41), none, [], none⟩,
  ⟨.bin .mul (.tmp 40) (.tmp 41), (some 42), none, [0, 1], none⟩,
  ⟨.mov (.tmp 13), (some 43), none, [], none⟩,
  ⟨.bin .add (.tmp 42) (.tmp 43), (some 44), none, [2, 3], none⟩,
  ⟨.mov (.tmp 12), (some 45), none, [], none⟩,
  ⟨.bin .shr (.tmp 45) (.con (.v (.int .u64 32))), (some 46), none, [5], none⟩,
  ⟨.bin .add (.tmp 44) (.tmp 46), (some 47), none, [4, 6], none⟩,
  ⟨.mov (.tmp 47), (some 4), none, [7, 0, 1, 2, 3, 4, 5, 6, 7], none⟩]
def d60r11 : List RO := [
  ⟨.mov (.tmp 0), (some 48), none, [], none⟩,
  ⟨.mov (.tmp 1), (some 49), none, [], none⟩,
  ⟨.bin .mul (.tmp 48) (.tmp 49), (some 50), none, [0, 1], none⟩,
  ⟨.mov (.tmp 50), (some 5), none, [2, 0, 1, 2], none⟩]
def d60 : DC := (.seq (.region false d60r0)
  (.seq (.region false d60r1)
  (.seq (.region false d60r2)
  (.seq (.region false d60r3)
  (.seq (.region false d60r4)
  (.seq (.region false d60r5)
  (.seq (.region false d60r6)
  (.seq (.region false d60r7)
  (.seq (.region false d60r8)
  (.seq (.region false d60r9)
  (.seq (.region false d60r10)
  (.seq (.region false d60r11)
  .ret))))))))))))
def d60res : List DRes := [.slot 4, .slot 5]
theorem c60 [Laid] : CodeOf Tryd.prog 45 51 d60 d60res := ⟨Tryd.f45, by kernel_rfl, by kernel_rfl, by kernel_rfl, by kernel_rfl, by kernel_rfl⟩
-- math/bits.Len64
def d70r0 : List RO := [
  ⟨.mov (.con (.v (.int .i64 0))), (some 2), none, [], none⟩]
def d70r1 : List RO := [
  ⟨.mov (.tmp 0), (some 3), none, [], none⟩,
  ⟨.bin .geq (.tmp 3) (.con (.v (.int .u64 4294967296))), (some 4), none, [0], none⟩]
def d70r2 : List RO := [
  ⟨.mov (.tmp 0), (some 5), none, [], none⟩,
  ⟨.bin .shr (.tmp 5) (.con (.v (.int .u64 32))), (some 6), none, [0], none⟩,
  ⟨.mov (.tmp 6), (some 0), none, [1, 0, 1], none⟩]
def d70r3 : List RO := [
  ⟨.mov (.con (.v (.int .i64 32))), (some 2), none, [], none⟩]
def d70r4 : List RO := [
  ⟨.mov (.tmp 0), (some 7), none, [], none⟩,
  ⟨.bin .geq (.tmp 7) (.con (.v (.int .u64 65536))), (some 8), none, [0], none⟩]
def d70r5 : List RO := [
  ⟨.mov (.tmp 0), (some 9), none, [], none⟩,
  ⟨.bin .shr (.tmp 9) (.con (.v (.int .u64 16))), (some 10), none, [0], none⟩,
  ⟨.mov (.tmp 10), (some 0), none, [1, 0, 1], none⟩]
def d70r6 : List RO := [
  ⟨.mov (.tmp 2), (some 11), none, [], none⟩,
  ⟨.bin .add (.tmp 11) (.con (.v (.int .i64 16))), (some 12), none, [0], none⟩,
  ⟨.mov (.tmp 12), (some 2), none, [1, 0, 1], none⟩]
def d70r7 : List RO := [
  ⟨.mov (.tmp 0), (some 13), none, [], none⟩,
  ⟨.bin .geq (.tmp 13) (.con (.v (.int .u64 256))), (some 14), none, [0], none⟩]
def d70r8 : List RO := [
  ⟨.mov (.tmp 0), (some 15), none, [], none⟩,
  ⟨.bin .shr (.tmp 15) (.con (.v (.int .u64 8))), (some 16), none, [0], none⟩,
  ⟨.mov (.tmp 16), (some 0), none, [1, 0, 1], none⟩]
def d70r9 : List RO := [
  ⟨.mov (.tmp 2), (some 17), none, [], none⟩,
  ⟨.bin .add (.tmp 17) (.con (.v (.int .i64 8))), (some 18), none, [0], none⟩,
  ⟨.mov (.tmp 18), (some 2), none, [1, 0, 1], none⟩]
def d70r10 : List RO := [
  ⟨.mov (.tmp 2), (some 19), none, [], none⟩,
  ⟨.mov (.tmp 0), (some 20), none, [], none⟩,
  ⟨.conv .u8 (.tmp 20), (some 21), none, [1], none⟩,
  ⟨.indexS (.con (.v (.str ⟨#[0, 1, 2, 2, 3, 3, 3, 3, 4, 4, 4, 4, 4, 4, 4, 4, 5, 5, 5, 5, 5, 5, 5, 5, 5, 5, 5, 5, 5, 5, 5, 5, 6, 6, 6, 6, 6, 6, 6, 6, 6, 6, 6, 6, 6, 6, 6, 6, 6, 6, 6, 6, 6, 6, 6, 6, 6, 6, 6, 6, 6, 6, 6, 6, 7, 7, 7, 7, 7, 7, 7, 7, 7, 7, 7, 7, 7, 7, 7, 7, 7, 7, 7, 7, 7, 7, 7, 7, 7, 7, 7, 7, 7, 7, 7, 7, 7, 7, 7, 7, 7, 7, 7, 7, 7, 7, 7, 7, 7, 7, 7, 7, 7, 7, 7, 7, 7, 7, 7, 7, 7, 7, 7, 7, 7, 7, 7, 7, 8, 8, 8, 8, 8, 8, 8, 8, 8, 8, 8, 8, 8, 8, 8, 8, 8, 8, 8, 8, 8, 8, 8, 8, 8, 8, 8, 8, 8, 8, 8, 8, 8, 8, 8, 8, 8, 8, 8, 8, 8, 8, 8, 8, 8, 8, 8, 8, 8, 8, 8, 8, 8, 8, 8, 8, 8, 8, 8, 8, 8, 8, 8, 8, 8, 8, 8, 8, 8, 8, 8, 8, 8, 8, 8, 8, 8, 8, 8, 8, 8, 8, 8, 8, 8, 8, 8, 8, 8, 8, 8, 8, 8, 8, 8, 8, 8, 8, 8, 8, 8, 8, 8, 8, 8, 8, 8, 8, 8, 8, 8, 8, 8, 8, 8, 8, 8, 8, 8, 8, 8, 8, 8, 8, 8, 8, 8, 8]⟩))) (.tmp 21), (some 22), none, [2], none⟩,
  ⟨.conv .i64 (.tmp 22), (some 23), none, [3], none⟩,
  ⟨.bin .add (.tmp 19) (.tmp 23), (some 24), none, [0, 4], none⟩,
  ⟨.mov (.tmp 24), (some 2), none, [5, 0, 1, 2, 3, 4, 5], none⟩]
def d70 : DC := (.seq (.region false d70r0)
  (.seq (.seq (.region false d70r1)
  (.cond (.tmp 4) (.seq (.region false d70r2)
  (.region false d70r3))
  .skip))
  (.seq (.seq (.region false d70r4)
  (.cond (.tmp 8) (.seq (.region false d70r5)
  (.region false d70r6))
  .skip))
  (.seq (.seq (.region false d70r7)
  (.cond (.tmp 14) (.seq (.region false d70r8)
  (.region false d70r9))
  .skip))
  (.seq (.region false d70r10)
  .ret)))))
def d70res : List DRes := [.slot 2]
theorem c70 [Laid] : CodeOf Tryd.prog 55 25 d70 d70res := ⟨Tryd.f55, by kernel_rfl, by kernel_rfl, by kernel_rfl, by kernel_rfl, by kernel_rfl⟩
-- slices.insertionSortCmpFunc[emendate/lattice.key]
theorem follows : Tryd.prog.follows .mixedOrders = true := by kernel_rfl

end Go.Proofs
