import Derived.Test.YtecgedikabjcdaaProg
import Derived.KernelRfl
import Derived.Test.YtecgedikabjcdaaMe
set_option linter.unusedVariables false
namespace Go.Proofs
open Go.DM
-- emendate/emendatelaw39.ItemsEdgesAreDistinct
def d6r0 : List RO := [
  ⟨.box (.tmp 0), (some 2), none, [], none⟩,
  ⟨.box (.tmp 1), (some 3), none, [], none⟩,
  ⟨.mov (.con (.v (.bool false))), (some 4), none, [], none⟩]
def d6r1 : List RO := [
  ⟨.call 9 [], (some 9), none, [], none⟩,
  ⟨.un .not (.tmp 9), (some 10), none, [0], none⟩]
def d6r2 : List RO := [
  ⟨.mov (.con (.v (.bool false))), (some 4), none, [], none⟩]
def d6r3 : List RO := [
  ⟨.load 4 true (.tmp 2), (some 11), none, [], none⟩,
  ⟨.load 3 true (.tmp 3), (some 12), none, [], none⟩,
  ⟨.call 10 [(.tmp 11), (.tmp 12)], (some 13), none, [0, 1], none⟩,
  ⟨.un .not (.tmp 13), (some 14), none, [2], none⟩]
def d6r4 : List RO := [
  ⟨.mov (.con (.v (.bool true))), (some 4), none, [], none⟩]
def d6r5 : List RO := [
  ⟨.load 4 true (.tmp 2), (some 15), none, [], none⟩,
  ⟨.load 3 true (.tmp 3), (some 16), none, [], none⟩,
  ⟨.call 11 [(.tmp 15), (.tmp 16)], (some 17), none, [0, 1], none⟩,
  ⟨.alloc [(.v (.int .i64 0)), .nil0], (some 5), none, [], none⟩,
  ⟨.store 2 (.tmp 5) (.tmp 17), none, none, [3, 2, 2, 0, 1, 2, 3], none⟩]
def d6r6 : List RO := [
  ⟨.mov (.con (.v (.int .i64 1))), (some 6), none, [], none⟩]
def d6r7 : List RO := [
  ⟨.mov (.tmp 6), (some 18), none, [], none⟩,
  ⟨.addOff 1 (.tmp 5), (some 19), none, [], none⟩,
  ⟨.load 1 false (.tmp 19), (some 20), none, [1], none⟩,
  ⟨.len (.tmp 20), (some 21), none, [2], none⟩,
  ⟨.bin .lss (.tmp 18) (.tmp 21), (some 22), none, [0, 3], none⟩]
def d6r8 : List RO := [
  ⟨.addOff 1 (.tmp 5), (some 25), none, [], none⟩,
  ⟨.load 1 false (.tmp 25), (some 26), none, [0], none⟩,
  ⟨.mov (.tmp 6), (some 27), none, [], none⟩,
  ⟨.bin .sub (.tmp 27) (.con (.v (.int .i64 1))), (some 28), none, [2], none⟩,
  ⟨.idxAddr 5 (.tmp 26) (.tmp 28), (some 29), none, [1, 3], none⟩,
  ⟨.load 5 true (.tmp 29), (some 30), none, [4], none⟩,
  ⟨.addOff 1 (.tmp 5), (some 31), none, [], none⟩,
  ⟨.load 1 false (.tmp 31), (some 32), none, [6], none⟩,
  ⟨.mov (.tmp 6), (some 33), none, [], none⟩,
  ⟨.idxAddr 5 (.tmp 32) (.tmp 33), (some 34), none, [7, 8], none⟩,
  ⟨.load 5 true (.tmp 34), (some 35), none, [9], none⟩,
  ⟨.alloc [(.v (.int .i64 0)), .nil0, (.v (.int .i64 0)), (.v (.int .i64 0)), (.v (.int .i64 0))], (some 7), none, [], none⟩,
  ⟨.alloc [(.v (.int .i64 0)), .nil0, (.v (.int .i64 0)), (.v (.int .i64 0)), (.v (.int .i64 0))], (some 8), none, [], none⟩,
  ⟨.store 5 (.tmp 7) (.tmp 30), none, none, [11, 5, 0, 1, 2, 3, 4, 5, 11, 12], none⟩,
  ⟨.store 5 (.tmp 8) (.tmp 35), none, none, [12, 10, 13, 0, 1, 2, 3, 4, 5, 6, 7, 8, 9, 10, 11, 12, 13], none⟩]
def d6r9 : List RO := [
  ⟨.addOff 0 (.tmp 7), (some 36), none, [], none⟩,
  ⟨.load 1 false (.tmp 36), (some 37), none, [0], none⟩,
  ⟨.addOff 0 (.tmp 8), (some 38), none, [], none⟩,
  ⟨.load 1 false (.tmp 38), (some 39), none, [2], none⟩,
  ⟨.bin .gtr (.tmp 37) (.tmp 39), (some 40), none, [1, 3], none⟩,
  ⟨.mov (.tmp 40), (some 41), none, [4], none⟩,
  ⟨.addOff 0 (.tmp 7), (some 42), (some (41, false)), [5], none⟩,
  ⟨.load 1 false (.tmp 42), (some 43), (some (41, false)), [6, 5], none⟩,
  ⟨.addOff 0 (.tmp 8), (some 44), (some (41, false)), [5], none⟩,
  ⟨.load 1 false (.tmp 44), (some 45), (some (41, false)), [8, 5], none⟩,
  ⟨.bin .eql (.tmp 43) (.tmp 45), (some 46), (some (41, false)), [7, 9, 5], none⟩,
  ⟨.mov (.tmp 46), (some 47), (some (41, false)), [10, 5, 5], none⟩,
  ⟨.addOff 3 (.tmp 7), (some 48), (some (47, true)), [11], none⟩,
  ⟨.arrAddr 2 1 (.tmp 48) (.con (.v (.int .i64 0))), (some 49), (some (47, true)), [12, 11], none⟩,
  ⟨.load 1 false (.tmp 49), (some 50), (some (47, true)), [13, 11], none⟩,
  ⟨.addOff 3 (.tmp 8), (some 51), (some (47, true)), [11], none⟩,
  ⟨.arrAddr 2 1 (.tmp 51) (.con (.v (.int .i64 0))), (some 52), (some (47, true)), [15, 11], none⟩,
  ⟨.load 1 false (.tmp 52), (some 53), (some (47, true)), [16, 11], none⟩,
  ⟨.bin .gtr (.tmp 50) (.tmp 53), (some 54), (some (47, true)), [14, 17, 11], none⟩,
  ⟨.mov (.tmp 54), (some 55), (some (47, true)), [18, 11, 11], none⟩,
  ⟨.addOff 3 (.tmp 7), (some 56), (some (55, false)), [19], none⟩,
  ⟨.arrAddr 2 1 (.tmp 56) (.con (.v (.int .i64 0))), (some 57), (some (55, false)), [20, 19], none⟩,
  ⟨.load 1 false (.tmp 57), (some 58), (some (55, false)), [21, 19], none⟩,
  ⟨.addOff 3 (.tmp 8), (some 59), (some (55, false)), [19], none⟩,
  ⟨.arrAddr 2 1 (.tmp 59) (.con (.v (.int .i64 0))), (some 60), (some (55, false)), [23, 19], none⟩,
  ⟨.load 1 false (.tmp 60), (some 61), (some (55, false)), [24, 19], none⟩,
  ⟨.bin .eql (.tmp 58) (.tmp 61), (some 62), (some (55, false)), [22, 25, 19], none⟩,
  ⟨.mov (.tmp 62), (some 63), (some (55, false)), [26, 19, 19], none⟩,
  ⟨.addOff 3 (.tmp 7), (some 64), (some (63, true)), [27], none⟩,
  ⟨.arrAddr 2 1 (.tmp 64) (.con (.v (.int .i64 1))), (some 65), (some (63, true)), [28, 27], none⟩,
  ⟨.load 1 false (.tmp 65), (some 66), (some (63, true)), [29, 27], none⟩,
  ⟨.addOff 3 (.tmp 8), (some 67), (some (63, true)), [27], none⟩,
  ⟨.arrAddr 2 1 (.tmp 67) (.con (.v (.int .i64 1))), (some 68), (some (63, true)), [31, 27], none⟩,
  ⟨.load 1 false (.tmp 68), (some 69), (some (63, true)), [32, 27], none⟩,
  ⟨.bin .geq (.tmp 66) (.tmp 69), (some 70), (some (63, true)), [30, 33, 27], none⟩,
  ⟨.pick (.tmp 63) (.tmp 70) (.con (.v (.bool false))), (some 71), (some (55, false)), [27, 34, 19], none⟩,
  ⟨.pick (.tmp 55) (.con (.v (.bool true))) (.tmp 71), (some 72), (some (47, true)), [19, 35, 11], none⟩,
  ⟨.pick (.tmp 47) (.tmp 72) (.con (.v (.bool false))), (some 73), (some (41, false)), [11, 36, 5], none⟩,
  ⟨.pick (.tmp 41) (.con (.v (.bool true))) (.tmp 73), (some 74), none, [5, 37], none⟩]
def d6r10 : List RO := [
  ⟨.mov (.con (.v (.bool false))), (some 4), none, [], none⟩]
def d6r11 : List RO := [
  ⟨.mov (.tmp 6), (some 23), none, [], none⟩,
  ⟨.bin .add (.tmp 23) (.con (.v (.int .i64 1))), (some 24), none, [0], none⟩,
  ⟨.mov (.tmp 24), (some 6), none, [1, 0, 1], none⟩]
def d6r12 : List RO := [
  ⟨.mov (.con (.v (.bool true))), (some 4), none, [], none⟩]
def d6 : DC := (.seq (.region false d6r0)
  (.seq (.seq (.region false d6r1)
  (.cond (.tmp 10) (.seq (.region false d6r2)
  .ret)
  .skip))
  (.seq (.seq (.region false d6r3)
  (.cond (.tmp 14) (.seq (.region false d6r4)
  .ret)
  .skip))
  (.seq (.region false d6r5)
  (.seq (.seq (.region false d6r6)
  (.block 0 (.loop (.seq (.seq (.region false d6r7)
  (.cond (.tmp 22) .skip
  (.exit 0)))
  (.seq (.block 1 (.seq (.regionT d6r8)
  (.seq (.region false d6r9)
  (.cond (.tmp 74) (.seq (.region false d6r10)
  .ret)
  .skip))))
  (.region false d6r11))))))
  (.seq (.region false d6r12)
  .ret))))))
def d6res : List DRes := [.slot 4]
theorem c6 : CodeOf Try.prog 6 75 d6 d6res := ⟨Try.f6, by kernel_rfl, by kernel_rfl, by kernel_rfl, by kernel_rfl, by kernel_rfl⟩
-- emendate/emendatelaw39.ItemsHypergraphMatchesReference
def d3r0 : List RO := [
  ⟨.box (.tmp 0), (some 2), none, [], none⟩,
  ⟨.box (.tmp 1), (some 3), none, [], none⟩,
  ⟨.mov (.con (.v (.bool false))), (some 4), none, [], none⟩]
def d3r1 : List RO := [
  ⟨.call 9 [], (some 7), none, [], none⟩,
  ⟨.un .not (.tmp 7), (some 8), none, [0], none⟩]
def d3r2 : List RO := [
  ⟨.mov (.con (.v (.bool false))), (some 4), none, [], none⟩]
def d3r3 : List RO := [
  ⟨.load 4 true (.tmp 2), (some 9), none, [], none⟩,
  ⟨.load 3 true (.tmp 3), (some 10), none, [], none⟩,
  ⟨.call 10 [(.tmp 9), (.tmp 10)], (some 11), none, [0, 1], none⟩,
  ⟨.un .not (.tmp 11), (some 12), none, [2], none⟩]
def d3r4 : List RO := [
  ⟨.mov (.con (.v (.bool true))), (some 4), none, [], none⟩]
def d3r5 : List RO := [
  ⟨.load 4 true (.tmp 2), (some 13), none, [], none⟩,
  ⟨.load 3 true (.tmp 3), (some 14), none, [], none⟩,
  ⟨.call 11 [(.tmp 13), (.tmp 14)], (some 15), none, [0, 1], none⟩,
  ⟨.load 4 true (.tmp 2), (some 16), none, [], none⟩,
  ⟨.load 3 true (.tmp 3), (some 17), none, [], none⟩,
  ⟨.call 12 [(.tmp 16), (.tmp 17)], (some 18), none, [3, 4, 2], none⟩,
  ⟨.alloc [(.v (.int .i64 0)), .nil0], (some 5), none, [], none⟩,
  ⟨.alloc [(.v (.int .i64 0)), .nil0], (some 6), none, [], none⟩,
  ⟨.store 2 (.tmp 5) (.tmp 15), none, none, [6, 2, 5, 0, 1, 2, 6, 7], none⟩,
  ⟨.store 2 (.tmp 6) (.tmp 18), none, none, [7, 5, 8, 0, 1, 2, 3, 4, 5, 6, 7, 8], none⟩]
def d3r6 : List RO := [
  ⟨.addOff 0 (.tmp 5), (some 19), none, [], none⟩,
  ⟨.load 1 false (.tmp 19), (some 20), none, [0], none⟩,
  ⟨.addOff 0 (.tmp 6), (some 21), none, [], none⟩,
  ⟨.load 1 false (.tmp 21), (some 22), none, [2], none⟩,
  ⟨.bin .eql (.tmp 20) (.tmp 22), (some 23), none, [1, 3], none⟩,
  ⟨.mov (.tmp 23), (some 24), none, [4], none⟩,
  ⟨.addOff 1 (.tmp 5), (some 25), (some (24, true)), [5], none⟩,
  ⟨.load 1 false (.tmp 25), (some 26), (some (24, true)), [6, 5], none⟩,
  ⟨.addOff 1 (.tmp 6), (some 27), (some (24, true)), [5], none⟩,
  ⟨.load 1 false (.tmp 27), (some 28), (some (24, true)), [8, 5], none⟩,
  ⟨.call 13 [(.tmp 26), (.tmp 28)], (some 29), (some (24, true)), [7, 9, 5, 5], none⟩,
  ⟨.pick (.tmp 24) (.tmp 29) (.con (.v (.bool false))), (some 30), none, [5, 10], none⟩,
  ⟨.mov (.tmp 30), (some 31), none, [11, 10], none⟩,
  ⟨.load 2 true (.tmp 5), (some 32), (some (31, true)), [12], none⟩,
  ⟨.call 14 [(.tmp 32)], (some 33), (some (31, true)), [13, 12, 12], none⟩,
  ⟨.pick (.tmp 31) (.tmp 33) (.con (.v (.bool false))), (some 34), none, [12, 14], none⟩,
  ⟨.mov (.tmp 34), (some 4), none, [15, 14, 0, 1, 2, 3, 4, 5, 6, 7, 8, 9, 10, 11, 12, 13, 14, 15], none⟩]
def d3 : DC := (.seq (.region false d3r0)
  (.seq (.seq (.region false d3r1)
  (.cond (.tmp 8) (.seq (.region false d3r2)
  .ret)
  .skip))
  (.seq (.seq (.region false d3r3)
  (.cond (.tmp 12) (.seq (.region false d3r4)
  .ret)
  .skip))
  (.seq (.region true d3r5)
  (.seq (.region false d3r6)
  .ret)))))
def d3res : List DRes := [.slot 4]
theorem c3 : CodeOf Try.prog 3 35 d3 d3res := ⟨Try.f3, by kernel_rfl, by kernel_rfl, by kernel_rfl, by kernel_rfl, by kernel_rfl⟩
-- emendate/emendatelaw39.ItemsMoreExpensiveArc
def d8r0 : List RO := [
  ⟨.box (.tmp 0), (some 3), none, [], none⟩,
  ⟨.box (.tmp 1), (some 4), none, [], none⟩,
  ⟨.mov (.con (.v (.bool false))), (some 6), none, [], none⟩]
def d8r1 : List RO := [
  ⟨.call 9 [], (some 15), none, [], none⟩,
  ⟨.un .not (.tmp 15), (some 16), none, [0], none⟩]
def d8r2 : List RO := [
  ⟨.mov (.con (.v (.bool false))), (some 6), none, [], none⟩]
def d8r3 : List RO := [
  ⟨.load 4 true (.tmp 3), (some 17), none, [], none⟩,
  ⟨.load 3 true (.tmp 4), (some 18), none, [], none⟩,
  ⟨.call 10 [(.tmp 17), (.tmp 18)], (some 19), none, [0, 1], none⟩,
  ⟨.un .not (.tmp 19), (some 20), none, [2], none⟩,
  ⟨.mov (.tmp 20), (some 21), none, [3, 2], none⟩,
  ⟨.addOff 1 (.tmp 4), (some 22), (some (21, false)), [4], none⟩,
  ⟨.load 1 false (.tmp 22), (some 23), (some (21, false)), [5, 4], none⟩,
  ⟨.len (.tmp 23), (some 24), (some (21, false)), [6, 4], none⟩,
  ⟨.bin .eql (.tmp 24) (.con (.v (.int .i64 0))), (some 25), (some (21, false)), [7, 4], none⟩,
  ⟨.pick (.tmp 21) (.con (.v (.bool true))) (.tmp 25), (some 26), none, [4, 8], none⟩]
def d8r4 : List RO := [
  ⟨.mov (.con (.v (.bool true))), (some 6), none, [], none⟩]
def d8r5 : List RO := [
  ⟨.mov (.tmp 2), (some 27), none, [], none⟩,
  ⟨.conv .i64 (.tmp 27), (some 28), none, [0], none⟩,
  ⟨.addOff 1 (.tmp 4), (some 29), none, [], none⟩,
  ⟨.load 1 false (.tmp 29), (some 30), none, [2], none⟩,
  ⟨.len (.tmp 30), (some 31), none, [3], none⟩,
  ⟨.bin .rem (.tmp 28) (.tmp 31), (some 32), none, [1, 4], none⟩,
  ⟨.mov (.tmp 32), (some 7), none, [5, 0, 1, 2, 3, 4, 5], none⟩]
def d8r6 : List RO := [
  ⟨.addOff 0 (.tmp 4), (some 33), none, [], none⟩,
  ⟨.load 1 false (.tmp 33), (some 34), none, [0], none⟩,
  ⟨.bslice 0 5 [] [], (some 35), none, [], none⟩,
  ⟨.addOff 1 (.tmp 4), (some 36), none, [], none⟩,
  ⟨.load 1 false (.tmp 36), (some 37), none, [3], none⟩,
  ⟨.append 66 5 56 (.tmp 35) (.tmp 37), (some 38), none, [2, 4], none⟩,
  ⟨.addOff 2 (.tmp 4), (some 39), none, [], none⟩,
  ⟨.load 1 false (.tmp 39), (some 40), none, [6], none⟩,
  ⟨.build [(.v (.int .i64 0)), .nil0, .nil0] [(0, 1, (.tmp 34)), (1, 1, (.tmp 38)), (2, 1, (.tmp 40))], (some 41), none, [1, 5, 7], none⟩,
  ⟨.alloc [(.v (.int .i64 0)), .nil0, .nil0], (some 8), none, [], none⟩,
  ⟨.store 3 (.tmp 8) (.tmp 41), none, none, [9, 8, 5, 0, 1, 2, 3, 4, 5, 6, 7, 8, 9], none⟩]
def d8r7 : List RO := [
  ⟨.addOff 1 (.tmp 8), (some 42), none, [], none⟩,
  ⟨.load 1 false (.tmp 42), (some 43), none, [0], none⟩,
  ⟨.mov (.tmp 7), (some 44), none, [], none⟩,
  ⟨.idxAddr 5 (.tmp 43) (.tmp 44), (some 45), none, [1, 2], none⟩,
  ⟨.addOff 3 (.tmp 45), (some 46), none, [3], none⟩,
  ⟨.load 1 false (.tmp 46), (some 47), none, [4], none⟩,
  ⟨.bin .geq (.tmp 47) (.con (.v (.int .i64 1099511625776))), (some 48), none, [5], none⟩]
def d8r8 : List RO := [
  ⟨.mov (.con (.v (.bool true))), (some 6), none, [], none⟩]
def d8r9 : List RO := [
  ⟨.addOff 1 (.tmp 8), (some 49), none, [], none⟩,
  ⟨.load 1 false (.tmp 49), (some 50), none, [0], none⟩,
  ⟨.mov (.tmp 7), (some 51), none, [], none⟩,
  ⟨.idxAddr 5 (.tmp 50) (.tmp 51), (some 52), none, [1, 2], none⟩,
  ⟨.addOff 3 (.tmp 52), (some 53), none, [3], none⟩,
  ⟨.load 1 false (.tmp 53), (some 54), none, [4], none⟩,
  ⟨.bin .add (.tmp 54) (.con (.v (.int .i64 1))), (some 55), none, [5], none⟩,
  ⟨.idxAddr 5 (.tmp 50) (.tmp 51), (some 56), none, [1, 2, 0, 1, 2, 3, 4, 5, 6], none⟩,
  ⟨.addOff 3 (.tmp 56), (some 57), none, [7, 0, 1, 2, 3, 4, 5, 6], none⟩,
  ⟨.store 1 (.tmp 57) (.tmp 55), none, none, [8, 6, 0, 1, 2, 3, 4, 5, 6], none⟩]
def d8r10 : List RO := [
  ⟨.load 4 true (.tmp 3), (some 58), none, [], none⟩,
  ⟨.load 3 true (.tmp 4), (some 59), none, [], none⟩,
  ⟨.call 11 [(.tmp 58), (.tmp 59)], (some 60), none, [0, 1], none⟩,
  ⟨.load 4 true (.tmp 3), (some 61), none, [], none⟩,
  ⟨.load 3 true (.tmp 8), (some 62), none, [], none⟩,
  ⟨.call 11 [(.tmp 61), (.tmp 62)], (some 63), none, [3, 4, 2], none⟩,
  ⟨.alloc [(.v (.int .i64 0)), .nil0], (some 9), none, [], none⟩,
  ⟨.alloc [(.v (.int .i64 0)), .nil0], (some 10), none, [], none⟩,
  ⟨.store 2 (.tmp 9) (.tmp 60), none, none, [6, 2, 5, 0, 1, 2, 6, 7], none⟩,
  ⟨.store 2 (.tmp 10) (.tmp 63), none, none, [7, 5, 8, 0, 1, 2, 3, 4, 5, 6, 7, 8], none⟩]
def d8r11 : List RO := [
  ⟨.addOff 1 (.tmp 9), (some 64), none, [], none⟩,
  ⟨.load 1 false (.tmp 64), (some 65), none, [0], none⟩,
  ⟨.len (.tmp 65), (some 66), none, [1], none⟩,
  ⟨.addOff 1 (.tmp 10), (some 67), none, [], none⟩,
  ⟨.load 1 false (.tmp 67), (some 68), none, [3], none⟩,
  ⟨.len (.tmp 68), (some 69), none, [4], none⟩,
  ⟨.bin .neq (.tmp 66) (.tmp 69), (some 70), none, [2, 5], none⟩]
def d8r12 : List RO := [
  ⟨.mov (.con (.v (.bool false))), (some 6), none, [], none⟩]
def d8r13 : List RO := [
  ⟨.mov (.con (.v (.int .i64 0))), (some 11), none, [], none⟩]
def d8r14 : List RO := [
  ⟨.mov (.tmp 11), (some 71), none, [], none⟩,
  ⟨.addOff 1 (.tmp 9), (some 72), none, [], none⟩,
  ⟨.load 1 false (.tmp 72), (some 73), none, [1], none⟩,
  ⟨.len (.tmp 73), (some 74), none, [2], none⟩,
  ⟨.bin .lss (.tmp 71) (.tmp 74), (some 75), none, [0, 3], none⟩]
def d8r15 : List RO := [
  ⟨.addOff 1 (.tmp 9), (some 78), none, [], none⟩,
  ⟨.load 1 false (.tmp 78), (some 79), none, [0], none⟩,
  ⟨.mov (.tmp 11), (some 80), none, [], none⟩,
  ⟨.idxAddr 5 (.tmp 79) (.tmp 80), (some 81), none, [1, 2], none⟩,
  ⟨.load 5 true (.tmp 81), (some 82), none, [3], none⟩,
  ⟨.addOff 1 (.tmp 10), (some 83), none, [], none⟩,
  ⟨.load 1 false (.tmp 83), (some 84), none, [5], none⟩,
  ⟨.mov (.tmp 11), (some 85), none, [], none⟩,
  ⟨.idxAddr 5 (.tmp 84) (.tmp 85), (some 86), none, [6, 7], none⟩,
  ⟨.load 5 true (.tmp 86), (some 87), none, [8], none⟩,
  ⟨.alloc [(.v (.int .i64 0)), .nil0, (.v (.int .i64 0)), (.v (.int .i64 0)), (.v (.int .i64 0))], (some 12), none, [], none⟩,
  ⟨.alloc [(.v (.int .i64 0)), .nil0, (.v (.int .i64 0)), (.v (.int .i64 0)), (.v (.int .i64 0))], (some 13), none, [], none⟩,
  ⟨.store 5 (.tmp 12) (.tmp 82), none, none, [10, 4, 0, 1, 2, 3, 4, 10, 11], none⟩,
  ⟨.store 5 (.tmp 13) (.tmp 87), none, none, [11, 9, 12, 0, 1, 2, 3, 4, 5, 6, 7, 8, 9, 10, 11, 12], none⟩]
def d8r16 : List RO := [
  ⟨.mov (.con (.v (.int .i64 0))), (some 14), none, [], none⟩]
def d8r17 : List RO := [
  ⟨.addOff 3 (.tmp 12), (some 88), none, [], none⟩,
  ⟨.arrAddr 2 1 (.tmp 88) (.con (.v (.int .i64 0))), (some 89), none, [0], none⟩,
  ⟨.load 1 false (.tmp 89), (some 90), none, [1], none⟩,
  ⟨.bin .geq (.tmp 90) (.con (.v (.int .i64 0))), (some 91), none, [2], none⟩,
  ⟨.mov (.tmp 91), (some 92), none, [3], none⟩,
  ⟨.addOff 3 (.tmp 12), (some 93), (some (92, true)), [4], none⟩,
  ⟨.arrAddr 2 1 (.tmp 93) (.con (.v (.int .i64 0))), (some 94), (some (92, true)), [5, 4], none⟩,
  ⟨.load 1 false (.tmp 94), (some 95), (some (92, true)), [6, 4], none⟩,
  ⟨.addOff 3 (.tmp 3), (some 96), (some (92, true)), [4], none⟩,
  ⟨.load 1 false (.tmp 96), (some 97), (some (92, true)), [8, 4], none⟩,
  ⟨.len (.tmp 97), (some 98), (some (92, true)), [9, 4], none⟩,
  ⟨.bin .lss (.tmp 95) (.tmp 98), (some 99), (some (92, true)), [7, 10, 4], none⟩,
  ⟨.pick (.tmp 92) (.tmp 99) (.con (.v (.bool false))), (some 100), none, [4, 11], none⟩,
  ⟨.mov (.tmp 100), (some 101), none, [12, 4], none⟩,
  ⟨.addOff 3 (.tmp 3), (some 102), (some (101, true)), [13], none⟩,
  ⟨.load 1 false (.tmp 102), (some 103), (some (101, true)), [14, 13], none⟩,
  ⟨.addOff 3 (.tmp 12), (some 104), (some (101, true)), [13], none⟩,
  ⟨.arrAddr 2 1 (.tmp 104) (.con (.v (.int .i64 0))), (some 105), (some (101, true)), [16, 13], none⟩,
  ⟨.load 1 false (.tmp 105), (some 106), (some (101, true)), [17, 13], none⟩,
  ⟨.idxAddr 6 (.tmp 103) (.tmp 106), (some 107), (some (101, true)), [15, 18, 13], none⟩,
  ⟨.addOff 0 (.tmp 107), (some 108), (some (101, true)), [19, 13], none⟩,
  ⟨.load 1 false (.tmp 108), (some 109), (some (101, true)), [20, 13], none⟩,
  ⟨.bin .eql (.tmp 109) (.con (.v (.int .i64 2))), (some 110), (some (101, true)), [21, 13], none⟩,
  ⟨.pick (.tmp 101) (.tmp 110) (.con (.v (.bool false))), (some 111), none, [13, 22], none⟩,
  ⟨.mov (.tmp 111), (some 112), none, [23, 13], none⟩,
  ⟨.addOff 3 (.tmp 12), (some 113), (some (112, true)), [24], none⟩,
  ⟨.arrAddr 2 1 (.tmp 113) (.con (.v (.int .i64 1))), (some 114), (some (112, true)), [25, 24], none⟩,
  ⟨.load 1 false (.tmp 114), (some 115), (some (112, true)), [26, 24], none⟩,
  ⟨.mov (.tmp 7), (some 116), (some (112, true)), [24], none⟩,
  ⟨.bin .eql (.tmp 115) (.tmp 116), (some 117), (some (112, true)), [27, 28, 24], none⟩,
  ⟨.pick (.tmp 112) (.tmp 117) (.con (.v (.bool false))), (some 118), none, [24, 29], none⟩]
def d8r18 : List RO := [
  ⟨.mov (.con (.v (.int .i64 1))), (some 14), none, [], none⟩]
def d8r19 : List RO := [
  ⟨.addOff 3 (.tmp 12), (some 119), none, [], none⟩,
  ⟨.load 2 true (.tmp 119), (some 120), none, [0], none⟩,
  ⟨.addOff 3 (.tmp 13), (some 121), none, [], none⟩,
  ⟨.load 2 true (.tmp 121), (some 122), none, [2], none⟩,
  ⟨.eqT true true [(.int .i64), (.int .i64)] (.tmp 120) (.tmp 122), (some 123), none, [1, 3], none⟩,
  ⟨.mov (.tmp 123), (some 124), none, [4], none⟩,
  ⟨.addOff 0 (.tmp 12), (some 125), (some (124, false)), [5], none⟩,
  ⟨.load 1 false (.tmp 125), (some 126), (some (124, false)), [6, 5], none⟩,
  ⟨.addOff 0 (.tmp 13), (some 127), (some (124, false)), [5], none⟩,
  ⟨.load 1 false (.tmp 127), (some 128), (some (124, false)), [8, 5], none⟩,
  ⟨.bin .neq (.tmp 126) (.tmp 128), (some 129), (some (124, false)), [7, 9, 5], none⟩,
  ⟨.pick (.tmp 124) (.con (.v (.bool true))) (.tmp 129), (some 130), none, [5, 10], none⟩,
  ⟨.mov (.tmp 130), (some 131), none, [11, 5], none⟩,
  ⟨.addOff 2 (.tmp 13), (some 132), (some (131, false)), [12], none⟩,
  ⟨.load 1 false (.tmp 132), (some 133), (some (131, false)), [13, 12], none⟩,
  ⟨.addOff 2 (.tmp 12), (some 134), (some (131, false)), [12], none⟩,
  ⟨.load 1 false (.tmp 134), (some 135), (some (131, false)), [15, 12], none⟩,
  ⟨.mov (.tmp 14), (some 136), (some (131, false)), [12], none⟩,
  ⟨.bin .add (.tmp 135) (.tmp 136), (some 137), (some (131, false)), [16, 17, 12], none⟩,
  ⟨.bin .neq (.tmp 133) (.tmp 137), (some 138), (some (131, false)), [14, 18, 12], none⟩,
  ⟨.pick (.tmp 131) (.con (.v (.bool true))) (.tmp 138), (some 139), none, [12, 19], none⟩]
def d8r20 : List RO := [
  ⟨.mov (.con (.v (.bool false))), (some 6), none, [], none⟩]
def d8r21 : List RO := [
  ⟨.mov (.tmp 11), (some 76), none, [], none⟩,
  ⟨.bin .add (.tmp 76) (.con (.v (.int .i64 1))), (some 77), none, [0], none⟩,
  ⟨.mov (.tmp 77), (some 11), none, [1, 0, 1], none⟩]
def d8r22 : List RO := [
  ⟨.mov (.con (.v (.bool true))), (some 6), none, [], none⟩]
def d8 : DC := (.seq (.region false d8r0)
  (.seq (.seq (.region false d8r1)
  (.cond (.tmp 16) (.seq (.region false d8r2)
  .ret)
  .skip))
  (.seq (.seq (.region false d8r3)
  (.cond (.tmp 26) (.seq (.region false d8r4)
  .ret)
  .skip))
  (.seq (.region false d8r5)
  (.seq (.regionT d8r6)
  (.seq (.seq (.region false d8r7)
  (.cond (.tmp 48) (.seq (.region false d8r8)
  .ret)
  .skip))
  (.seq (.region false d8r9)
  (.seq (.region true d8r10)
  (.seq (.seq (.region false d8r11)
  (.cond (.tmp 70) (.seq (.region false d8r12)
  .ret)
  .skip))
  (.seq (.seq (.region false d8r13)
  (.block 0 (.loop (.seq (.seq (.region false d8r14)
  (.cond (.tmp 75) .skip
  (.exit 0)))
  (.seq (.block 1 (.seq (.regionT d8r15)
  (.seq (.region false d8r16)
  (.seq (.seq (.region false d8r17)
  (.cond (.tmp 118) (.region false d8r18)
  .skip))
  (.seq (.region false d8r19)
  (.cond (.tmp 139) (.seq (.region false d8r20)
  .ret)
  .skip))))))
  (.region false d8r21))))))
  (.seq (.region false d8r22)
  .ret)))))))))))
def d8res : List DRes := [.slot 6]
theorem c8 : CodeOf Try.prog 8 140 d8 d8res := ⟨Try.f8, by kernel_rfl, by kernel_rfl, by kernel_rfl, by kernel_rfl, by kernel_rfl⟩
-- emendate/emendateref39.Hypergraph
def d12r0 : List RO := [
  ⟨.box (.tmp 0), (some 2), none, [], none⟩,
  ⟨.box (.tmp 1), (some 3), none, [], none⟩,
  ⟨.alloc [(.v (.int .i64 0)), .nil0], (some 4), none, [], none⟩]
def d12r1 : List RO := [
  ⟨.mov (.con .nil0), (some 5), none, [], none⟩]
def d12r2 : List RO := [
  ⟨.mov (.con (.v (.int .i64 0))), (some 6), none, [], none⟩]
def d12r3 : List RO := [
  ⟨.mov (.tmp 6), (some 13), none, [], none⟩,
  ⟨.addOff 0 (.tmp 3), (some 14), none, [], none⟩,
  ⟨.load 1 false (.tmp 14), (some 15), none, [1], none⟩,
  ⟨.bin .lss (.tmp 13) (.tmp 15), (some 16), none, [0, 2], none⟩]
def d12r4 : List RO := [
  ⟨.mov (.tmp 6), (some 19), none, [], none⟩,
  ⟨.mov (.tmp 19), (some 7), none, [0, 0], none⟩]
def d12r5 : List RO := [
  ⟨.mov (.tmp 7), (some 20), none, [], none⟩,
  ⟨.addOff 0 (.tmp 3), (some 21), none, [], none⟩,
  ⟨.load 1 false (.tmp 21), (some 22), none, [1], none⟩,
  ⟨.bin .lss (.tmp 20) (.tmp 22), (some 23), none, [0, 2], none⟩]
def d12r6 : List RO := [
  ⟨.mov (.con (.v (.int .i64 0))), (some 8), none, [], none⟩]
def d12r7 : List RO := [
  ⟨.mov (.tmp 8), (some 26), none, [], none⟩,
  ⟨.addOff 1 (.tmp 2), (some 27), none, [], none⟩,
  ⟨.load 1 false (.tmp 27), (some 28), none, [1], none⟩,
  ⟨.bin .lss (.tmp 26) (.tmp 28), (some 29), none, [0, 2], none⟩]
def d12r8 : List RO := [
  ⟨.mov (.tmp 5), (some 32), none, [], none⟩,
  ⟨.load 4 true (.tmp 2), (some 33), none, [], none⟩,
  ⟨.load 3 true (.tmp 3), (some 34), none, [], none⟩,
  ⟨.mov (.tmp 8), (some 35), none, [], none⟩,
  ⟨.mov (.tmp 6), (some 36), none, [], none⟩,
  ⟨.mov (.tmp 7), (some 37), none, [], none⟩,
  ⟨.build [(.v (.int .i64 0)), (.v (.int .i64 0)), (.v (.int .i64 0))] [(0, 1, (.tmp 35)), (1, 1, (.tmp 36)), (2, 1, (.tmp 37))], (some 38), none, [3, 4, 5], none⟩,
  ⟨.call 38 [(.tmp 33), (.tmp 34), (.tmp 38)], (some 39), none, [1, 2, 6], none⟩,
  ⟨.append 47 5 56 (.tmp 32) (.tmp 39), (some 40), none, [0, 7, 7], none⟩,
  ⟨.mov (.tmp 40), (some 5), none, [8, 8, 0, 1, 2, 3, 4, 5, 6, 7, 8], none⟩]
def d12r9 : List RO := [
  ⟨.mov (.tmp 8), (some 30), none, [], none⟩,
  ⟨.bin .add (.tmp 30) (.con (.v (.int .i64 1))), (some 31), none, [0], none⟩,
  ⟨.mov (.tmp 31), (some 8), none, [1, 0, 1], none⟩]
def d12r10 : List RO := [
  ⟨.mov (.tmp 7), (some 24), none, [], none⟩,
  ⟨.bin .add (.tmp 24) (.con (.v (.int .i64 1))), (some 25), none, [0], none⟩,
  ⟨.mov (.tmp 25), (some 7), none, [1, 0, 1], none⟩]
def d12r11 : List RO := [
  ⟨.mov (.tmp 6), (some 17), none, [], none⟩,
  ⟨.bin .add (.tmp 17) (.con (.v (.int .i64 1))), (some 18), none, [0], none⟩,
  ⟨.mov (.tmp 18), (some 6), none, [1, 0, 1], none⟩]
def d12r12 : List RO := [
  ⟨.load 4 true (.tmp 2), (some 41), none, [], none⟩,
  ⟨.load 3 true (.tmp 3), (some 42), none, [], none⟩,
  ⟨.call 39 [(.tmp 41), (.tmp 42)], (some 43), none, [0, 1], none⟩,
  ⟨.bin .sub (.tmp 43) (.con (.v (.int .i64 1))), (some 44), none, [2], none⟩,
  ⟨.mov (.tmp 44), (some 9), none, [3, 2, 0, 1, 2, 3], none⟩]
def d12r13 : List RO := [
  ⟨.mov (.con (.v (.int .i64 0))), (some 10), none, [], none⟩]
def d12r14 : List RO := [
  ⟨.mov (.tmp 10), (some 45), none, [], none⟩,
  ⟨.addOff 0 (.tmp 3), (some 46), none, [], none⟩,
  ⟨.load 1 false (.tmp 46), (some 47), none, [1], none⟩,
  ⟨.bin .lss (.tmp 45) (.tmp 47), (some 48), none, [0, 2], none⟩]
def d12r15 : List RO := [
  ⟨.addOff 2 (.tmp 3), (some 51), none, [], none⟩,
  ⟨.load 1 false (.tmp 51), (some 52), none, [0], none⟩,
  ⟨.mov (.tmp 10), (some 53), none, [], none⟩,
  ⟨.idxAddr 1 (.tmp 52) (.tmp 53), (some 54), none, [1, 2], none⟩,
  ⟨.load 1 false (.tmp 54), (some 55), none, [3], none⟩,
  ⟨.bin .lss (.tmp 55) (.con (.v (.int .i64 1099511627776))), (some 56), none, [4], none⟩]
def d12r16 : List RO := [
  ⟨.load 4 true (.tmp 2), (some 58), none, [], none⟩,
  ⟨.load 3 true (.tmp 3), (some 59), none, [], none⟩,
  ⟨.addOff 2 (.tmp 2), (some 60), none, [], none⟩,
  ⟨.load 1 false (.tmp 60), (some 61), none, [2], none⟩,
  ⟨.mov (.tmp 10), (some 62), none, [], none⟩,
  ⟨.build [(.v (.int .i64 0)), (.v (.int .i64 0)), (.v (.int .i64 0))] [(0, 1, (.tmp 61)), (2, 1, (.tmp 62))], (some 63), none, [3, 4], none⟩,
  ⟨.call 18 [(.tmp 58), (.tmp 59), (.tmp 63)], (some 64), none, [0, 1, 5], none⟩,
  ⟨.mov (.tmp 64), (some 57), none, [6], none⟩,
  ⟨.extract 0 (.tmp 57), (some 65), none, [7], none⟩,
  ⟨.extract 1 (.tmp 57), (some 66), none, [7], none⟩,
  ⟨.mov (.tmp 65), (some 11), none, [8, 6, 0, 1, 2, 3, 4, 5, 6, 7, 8], none⟩,
  ⟨.mov (.tmp 66), (some 12), none, [9, 10, 0, 1, 2, 3, 4, 5, 6, 7, 8, 9, 10], none⟩]
def d12r17 : List RO := [
  ⟨.mov (.tmp 5), (some 67), none, [], none⟩,
  ⟨.mov (.tmp 9), (some 68), none, [], none⟩,
  ⟨.mov (.tmp 11), (some 69), none, [], none⟩,
  ⟨.bslice 1 1 [(.v (.int .i64 0))] [(0, 1, (.tmp 69))], (some 70), none, [2], none⟩,
  ⟨.addOff 2 (.tmp 3), (some 71), none, [], none⟩,
  ⟨.load 1 false (.tmp 71), (some 72), none, [4], none⟩,
  ⟨.mov (.tmp 10), (some 73), none, [], none⟩,
  ⟨.idxAddr 1 (.tmp 72) (.tmp 73), (some 74), none, [5, 6], none⟩,
  ⟨.load 1 false (.tmp 74), (some 75), none, [7], none⟩,
  ⟨.mov (.tmp 10), (some 76), none, [], none⟩,
  ⟨.build [(.v (.int .i64 0)), (.v (.int .i64 0))] [(0, 1, (.con (.v (.int .i64 (-1))))), (1, 1, (.tmp 76))], (some 77), none, [9], none⟩,
  ⟨.build [(.v (.int .i64 0)), .nil0, (.v (.int .i64 0)), (.v (.int .i64 0)), (.v (.int .i64 0))] [(0, 1, (.tmp 68)), (1, 1, (.tmp 70)), (2, 1, (.tmp 75)), (3, 2, (.tmp 77))], (some 78), none, [1, 3, 8, 10], none⟩,
  ⟨.bslice 1 5 [(.v (.int .i64 0)), .nil0, (.v (.int .i64 0)), (.v (.int .i64 0)), (.v (.int .i64 0))] [(0, 5, (.tmp 78))], (some 79), none, [11], none⟩,
  ⟨.append 47 5 56 (.tmp 67) (.tmp 79), (some 80), none, [0, 12], none⟩,
  ⟨.mov (.tmp 80), (some 5), none, [13, 13, 0, 1, 2, 3, 4, 5, 6, 7, 8, 9, 10, 11, 12, 13], none⟩]
def d12r18 : List RO := [
  ⟨.mov (.tmp 10), (some 49), none, [], none⟩,
  ⟨.bin .add (.tmp 49) (.con (.v (.int .i64 1))), (some 50), none, [0], none⟩,
  ⟨.mov (.tmp 50), (some 10), none, [1, 0, 1], none⟩]
def d12r19 : List RO := [
  ⟨.mov (.tmp 9), (some 81), none, [], none⟩,
  ⟨.bin .add (.tmp 81) (.con (.v (.int .i64 1))), (some 82), none, [0], none⟩,
  ⟨.mov (.tmp 5), (some 83), none, [], none⟩,
  ⟨.build [(.v (.int .i64 0)), .nil0] [(0, 1, (.tmp 82)), (1, 1, (.tmp 83))], (some 84), none, [1, 2], none⟩,
  ⟨.store 2 (.tmp 4) (.tmp 84), none, none, [3, 0, 1, 2, 3], none⟩]
def d12 : DC := (.seq (.region false d12r0)
  (.seq (.region false d12r1)
  (.seq (.seq (.region false d12r2)
  (.block 0 (.loop (.seq (.seq (.region false d12r3)
  (.cond (.tmp 16) .skip
  (.exit 0)))
  (.seq (.block 1 (.seq (.region false d12r4)
  (.block 2 (.loop (.seq (.seq (.region false d12r5)
  (.cond (.tmp 23) .skip
  (.exit 2)))
  (.seq (.block 3 (.seq (.region false d12r6)
  (.block 4 (.loop (.seq (.seq (.region false d12r7)
  (.cond (.tmp 29) .skip
  (.exit 4)))
  (.seq (.block 5 (.region false d12r8))
  (.region false d12r9)))))))
  (.region false d12r10)))))))
  (.region false d12r11))))))
  (.seq (.region false d12r12)
  (.seq (.seq (.region false d12r13)
  (.block 6 (.loop (.seq (.seq (.region false d12r14)
  (.cond (.tmp 48) .skip
  (.exit 6)))
  (.seq (.block 7 (.seq (.region false d12r15)
  (.cond (.tmp 56) (.seq (.region false d12r16)
  (.region false d12r17))
  .skip)))
  (.region false d12r18))))))
  (.seq (.region false d12r19)
  .ret))))))
def d12res : List DRes := [.cell 4 2 true]
theorem c12 : CodeOf Try.prog 12 85 d12 d12res := ⟨Try.f12, by kernel_rfl, by kernel_rfl, by kernel_rfl, by kernel_rfl, by kernel_rfl⟩
-- emendate/emendateref27.Valid
def d14r0 : List RO := [
  ⟨.box (.tmp 0), (some 1), none, [], none⟩,
  ⟨.mov (.con (.v (.bool false))), (some 2), none, [], none⟩]
def d14r1 : List RO := [
  ⟨.addOff 0 (.tmp 1), (some 6), none, [], none⟩,
  ⟨.load 1 false (.tmp 6), (some 7), none, [0], none⟩,
  ⟨.bin .lss (.tmp 7) (.con (.v (.int .i64 1))), (some 8), none, [1], none⟩,
  ⟨.mov (.tmp 8), (some 9), none, [2], none⟩,
  ⟨.addOff 0 (.tmp 1), (some 10), (some (9, false)), [3], none⟩,
  ⟨.load 1 false (.tmp 10), (some 11), (some (9, false)), [4, 3], none⟩,
  ⟨.bin .gtr (.tmp 11) (.con (.v (.int .i64 1048576))), (some 12), (some (9, false)), [5, 3], none⟩,
  ⟨.pick (.tmp 9) (.con (.v (.bool true))) (.tmp 12), (some 13), none, [3, 6], none⟩]
def d14r2 : List RO := [
  ⟨.mov (.con (.v (.bool false))), (some 2), none, [], none⟩]
def d14r3 : List RO := [
  ⟨.mov (.con (.v (.int .i64 0))), (some 3), none, [], none⟩]
def d14r4 : List RO := [
  ⟨.mov (.tmp 3), (some 14), none, [], none⟩,
  ⟨.addOff 1 (.tmp 1), (some 15), none, [], none⟩,
  ⟨.load 1 false (.tmp 15), (some 16), none, [1], none⟩,
  ⟨.len (.tmp 16), (some 17), none, [2], none⟩,
  ⟨.bin .lss (.tmp 14) (.tmp 17), (some 18), none, [0, 3], none⟩]
def d14r5 : List RO := [
  ⟨.addOff 1 (.tmp 1), (some 21), none, [], none⟩,
  ⟨.load 1 false (.tmp 21), (some 22), none, [0], none⟩,
  ⟨.mov (.tmp 3), (some 23), none, [], none⟩,
  ⟨.idxAddr 5 (.tmp 22) (.tmp 23), (some 24), none, [1, 2], none⟩,
  ⟨.load 5 true (.tmp 24), (some 25), none, [3], none⟩,
  ⟨.alloc [(.v (.int .i64 0)), .nil0, (.v (.int .i64 0)), (.v (.int .i64 0)), (.v (.int .i64 0))], (some 4), none, [], none⟩,
  ⟨.store 5 (.tmp 4) (.tmp 25), none, none, [5, 4, 0, 1, 2, 3, 4, 5], none⟩]
def d14r6 : List RO := [
  ⟨.addOff 0 (.tmp 4), (some 26), none, [], none⟩,
  ⟨.load 1 false (.tmp 26), (some 27), none, [0], none⟩,
  ⟨.bin .lss (.tmp 27) (.con (.v (.int .i64 0))), (some 28), none, [1], none⟩,
  ⟨.mov (.tmp 28), (some 29), none, [2], none⟩,
  ⟨.addOff 0 (.tmp 4), (some 30), (some (29, false)), [3], none⟩,
  ⟨.load 1 false (.tmp 30), (some 31), (some (29, false)), [4, 3], none⟩,
  ⟨.addOff 0 (.tmp 1), (some 32), (some (29, false)), [3], none⟩,
  ⟨.load 1 false (.tmp 32), (some 33), (some (29, false)), [6, 3], none⟩,
  ⟨.bin .geq (.tmp 31) (.tmp 33), (some 34), (some (29, false)), [5, 7, 3], none⟩,
  ⟨.pick (.tmp 29) (.con (.v (.bool true))) (.tmp 34), (some 35), none, [3, 8], none⟩,
  ⟨.mov (.tmp 35), (some 36), none, [9, 3], none⟩,
  ⟨.addOff 2 (.tmp 4), (some 37), (some (36, false)), [10], none⟩,
  ⟨.load 1 false (.tmp 37), (some 38), (some (36, false)), [11, 10], none⟩,
  ⟨.bin .lss (.tmp 38) (.con (.v (.int .i64 0))), (some 39), (some (36, false)), [12, 10], none⟩,
  ⟨.pick (.tmp 36) (.con (.v (.bool true))) (.tmp 39), (some 40), none, [10, 13], none⟩,
  ⟨.mov (.tmp 40), (some 41), none, [14, 10], none⟩,
  ⟨.addOff 2 (.tmp 4), (some 42), (some (41, false)), [15], none⟩,
  ⟨.load 1 false (.tmp 42), (some 43), (some (41, false)), [16, 15], none⟩,
  ⟨.bin .gtr (.tmp 43) (.con (.v (.int .i64 1099511627776))), (some 44), (some (41, false)), [17, 15], none⟩,
  ⟨.pick (.tmp 41) (.con (.v (.bool true))) (.tmp 44), (some 45), none, [15, 18], none⟩]
def d14r7 : List RO := [
  ⟨.mov (.con (.v (.bool false))), (some 2), none, [], none⟩]
def d14r8 : List RO := [
  ⟨.mov (.con (.v (.int .i64 0))), (some 5), none, [], none⟩]
def d14r9 : List RO := [
  ⟨.mov (.tmp 5), (some 46), none, [], none⟩,
  ⟨.addOff 1 (.tmp 4), (some 47), none, [], none⟩,
  ⟨.load 1 false (.tmp 47), (some 48), none, [1], none⟩,
  ⟨.len (.tmp 48), (some 49), none, [2], none⟩,
  ⟨.bin .lss (.tmp 46) (.tmp 49), (some 50), none, [0, 3], none⟩]
def d14r10 : List RO := [
  ⟨.addOff 1 (.tmp 4), (some 53), none, [], none⟩,
  ⟨.load 1 false (.tmp 53), (some 54), none, [0], none⟩,
  ⟨.mov (.tmp 5), (some 55), none, [], none⟩,
  ⟨.idxAddr 1 (.tmp 54) (.tmp 55), (some 56), none, [1, 2], none⟩,
  ⟨.load 1 false (.tmp 56), (some 57), none, [3], none⟩,
  ⟨.bin .lss (.tmp 57) (.con (.v (.int .i64 0))), (some 58), none, [4], none⟩,
  ⟨.mov (.tmp 58), (some 59), none, [5], none⟩,
  ⟨.addOff 1 (.tmp 4), (some 60), (some (59, false)), [6], none⟩,
  ⟨.load 1 false (.tmp 60), (some 61), (some (59, false)), [7, 6], none⟩,
  ⟨.mov (.tmp 5), (some 62), (some (59, false)), [6], none⟩,
  ⟨.idxAddr 1 (.tmp 61) (.tmp 62), (some 63), (some (59, false)), [8, 9, 6], none⟩,
  ⟨.load 1 false (.tmp 63), (some 64), (some (59, false)), [10, 6], none⟩,
  ⟨.addOff 0 (.tmp 1), (some 65), (some (59, false)), [6], none⟩,
  ⟨.load 1 false (.tmp 65), (some 66), (some (59, false)), [12, 6], none⟩,
  ⟨.bin .geq (.tmp 64) (.tmp 66), (some 67), (some (59, false)), [11, 13, 6], none⟩,
  ⟨.pick (.tmp 59) (.con (.v (.bool true))) (.tmp 67), (some 68), none, [6, 14], none⟩]
def d14r11 : List RO := [
  ⟨.mov (.con (.v (.bool false))), (some 2), none, [], none⟩]
def d14r12 : List RO := [
  ⟨.mov (.tmp 5), (some 51), none, [], none⟩,
  ⟨.bin .add (.tmp 51) (.con (.v (.int .i64 1))), (some 52), none, [0], none⟩,
  ⟨.mov (.tmp 52), (some 5), none, [1, 0, 1], none⟩]
def d14r13 : List RO := [
  ⟨.mov (.tmp 3), (some 19), none, [], none⟩,
  ⟨.bin .add (.tmp 19) (.con (.v (.int .i64 1))), (some 20), none, [0], none⟩,
  ⟨.mov (.tmp 20), (some 3), none, [1, 0, 1], none⟩]
def d14r14 : List RO := [
  ⟨.mov (.con (.v (.bool true))), (some 2), none, [], none⟩]
def d14 : DC := (.seq (.region false d14r0)
  (.seq (.seq (.region false d14r1)
  (.cond (.tmp 13) (.seq (.region false d14r2)
  .ret)
  .skip))
  (.seq (.seq (.region false d14r3)
  (.block 0 (.loop (.seq (.seq (.region false d14r4)
  (.cond (.tmp 18) .skip
  (.exit 0)))
  (.seq (.block 1 (.seq (.region false d14r5)
  (.seq (.seq (.region false d14r6)
  (.cond (.tmp 45) (.seq (.region false d14r7)
  .ret)
  .skip))
  (.seq (.region false d14r8)
  (.block 2 (.loop (.seq (.seq (.region false d14r9)
  (.cond (.tmp 50) .skip
  (.exit 2)))
  (.seq (.block 3 (.seq (.region true d14r10)
  (.cond (.tmp 68) (.seq (.region false d14r11)
  .ret)
  .skip)))
  (.region false d14r12)))))))))
  (.region false d14r13))))))
  (.seq (.region false d14r14)
  .ret))))
def d14res : List DRes := [.slot 2]
theorem c14 : CodeOf Try.prog 14 69 d14 d14res := ⟨Try.f14, by kernel_rfl, by kernel_rfl, by kernel_rfl, by kernel_rfl, by kernel_rfl⟩
-- emendate/emendateref39.edges
def d38r0 : List RO := [
  ⟨.box (.tmp 0), (some 3), none, [], none⟩,
  ⟨.box (.tmp 1), (some 4), none, [], none⟩,
  ⟨.box (.tmp 2), (some 5), none, [], none⟩,
  ⟨.mov (.con .nil0), (some 6), none, [], none⟩]
def d38r1 : List RO := [
  ⟨.mov (.con .nil0), (some 7), none, [], none⟩]
def d38r2 : List RO := [
  ⟨.load 4 true (.tmp 3), (some 23), none, [], none⟩,
  ⟨.load 3 true (.tmp 4), (some 24), none, [], none⟩,
  ⟨.load 3 true (.tmp 5), (some 25), none, [], none⟩,
  ⟨.call 18 [(.tmp 23), (.tmp 24), (.tmp 25)], (some 26), none, [0, 1, 2], none⟩,
  ⟨.mov (.tmp 26), (some 22), none, [3], none⟩,
  ⟨.extract 0 (.tmp 22), (some 27), none, [4], none⟩,
  ⟨.extract 1 (.tmp 22), (some 28), none, [4], none⟩,
  ⟨.mov (.tmp 27), (some 8), none, [5, 3, 0, 1, 2, 3, 4, 5], none⟩,
  ⟨.mov (.tmp 28), (some 9), none, [6, 7, 0, 1, 2, 3, 4, 5, 6, 7], none⟩]
def d38r3 : List RO := [
  ⟨.mov (.con (.v (.int .i64 0))), (some 10), none, [], none⟩]
def d38r4 : List RO := [
  ⟨.mov (.tmp 10), (some 29), none, [], none⟩,
  ⟨.addOff 3 (.tmp 3), (some 30), none, [], none⟩,
  ⟨.load 1 false (.tmp 30), (some 31), none, [1], none⟩,
  ⟨.len (.tmp 31), (some 32), none, [2], none⟩,
  ⟨.bin .lss (.tmp 29) (.tmp 32), (some 33), none, [0, 3], none⟩]
def d38r5 : List RO := [
  ⟨.addOff 3 (.tmp 3), (some 36), none, [], none⟩,
  ⟨.load 1 false (.tmp 36), (some 37), none, [0], none⟩,
  ⟨.mov (.tmp 10), (some 38), none, [], none⟩,
  ⟨.idxAddr 6 (.tmp 37) (.tmp 38), (some 39), none, [1, 2], none⟩,
  ⟨.load 6 true (.tmp 39), (some 40), none, [3], none⟩,
  ⟨.alloc [(.v (.int .i64 0)), (.v (.int .i64 0)), (.v (.int .i64 0)), (.v (.int .i64 0)), (.v (.int .i64 0)), (.v (.int .i64 0))], (some 11), none, [], none⟩,
  ⟨.store 6 (.tmp 11) (.tmp 40), none, none, [5, 4, 0, 1, 2, 3, 4, 5], none⟩]
def d38r6 : List RO := [
  ⟨.addOff 1 (.tmp 11), (some 41), none, [], none⟩,
  ⟨.load 1 false (.tmp 41), (some 42), none, [0], none⟩,
  ⟨.addOff 0 (.tmp 5), (some 43), none, [], none⟩,
  ⟨.load 1 false (.tmp 43), (some 44), none, [2], none⟩,
  ⟨.bin .neq (.tmp 42) (.tmp 44), (some 45), none, [1, 3], none⟩]
def d38r7 : List RO := [
  ⟨.mov (.tmp 8), (some 46), none, [], none⟩,
  ⟨.addOff 4 (.tmp 11), (some 47), none, [], none⟩,
  ⟨.load 1 false (.tmp 47), (some 48), none, [1], none⟩,
  ⟨.build [(.v (.int .i64 0)), .nil0, (.v (.int .i64 0)), (.v (.int .i64 0)), (.v (.int .i64 0))] [(0, 1, (.tmp 46)), (2, 1, (.tmp 48))], (some 49), none, [0, 2], none⟩,
  ⟨.alloc [(.v (.int .i64 0)), .nil0, (.v (.int .i64 0)), (.v (.int .i64 0)), (.v (.int .i64 0))], (some 12), none, [], none⟩,
  ⟨.store 5 (.tmp 12) (.tmp 49), none, none, [4, 3, 0, 1, 2, 3, 4], none⟩]
def d38r8 : List RO := [
  ⟨.addOff 0 (.tmp 11), (some 50), none, [], none⟩,
  ⟨.load 1 false (.tmp 50), (some 51), none, [0], none⟩]
def d38r9 : List RO := [
  ⟨.bin .eql (.tmp 51) (.con (.v (.int .i64 1))), (some 53), none, [], none⟩,
  ⟨.mov (.tmp 53), (some 52), none, [0], none⟩]
def d38r10 : List RO := [
  ⟨.addOff 1 (.tmp 5), (some 54), none, [], none⟩,
  ⟨.load 1 false (.tmp 54), (some 55), none, [0], none⟩,
  ⟨.addOff 2 (.tmp 5), (some 56), none, [], none⟩,
  ⟨.load 1 false (.tmp 56), (some 57), none, [2], none⟩,
  ⟨.bin .eql (.tmp 55) (.tmp 57), (some 58), none, [1, 3], none⟩]
def d38r11 : List RO := [
  ⟨.mov (.tmp 10), (some 59), none, [], none⟩,
  ⟨.addOff 1 (.tmp 5), (some 60), none, [], none⟩,
  ⟨.load 1 false (.tmp 60), (some 61), none, [1], none⟩,
  ⟨.build [(.v (.int .i64 0)), (.v (.int .i64 0))] [(0, 1, (.tmp 59)), (1, 1, (.tmp 61))], (some 62), none, [0, 2], none⟩,
  ⟨.addOff 3 (.tmp 12), (some 63), none, [0, 1, 2, 3], none⟩,
  ⟨.store 2 (.tmp 63) (.tmp 62), none, none, [4, 3, 0, 1, 2, 3], none⟩]
def d38r12 : List RO := [
  ⟨.mov (.tmp 7), (some 64), none, [], none⟩,
  ⟨.load 5 true (.tmp 12), (some 65), none, [], none⟩,
  ⟨.bslice 1 5 [(.v (.int .i64 0)), .nil0, (.v (.int .i64 0)), (.v (.int .i64 0)), (.v (.int .i64 0))] [(0, 5, (.tmp 65))], (some 66), none, [1], none⟩,
  ⟨.append 47 5 56 (.tmp 64) (.tmp 66), (some 67), none, [0, 2], none⟩,
  ⟨.mov (.tmp 67), (some 7), none, [3, 3, 0, 1, 2, 3], none⟩]
def d38r13 : List RO := [
  ⟨.bin .eql (.tmp 51) (.con (.v (.int .i64 2))), (some 69), none, [], none⟩,
  ⟨.mov (.tmp 69), (some 68), none, [0], none⟩]
def d38r14 : List RO := [
  ⟨.mov (.con (.v (.int .i64 0))), (some 13), none, [], none⟩]
def d38r15 : List RO := [
  ⟨.mov (.tmp 13), (some 70), none, [], none⟩,
  ⟨.addOff 1 (.tmp 4), (some 71), none, [], none⟩,
  ⟨.load 1 false (.tmp 71), (some 72), none, [1], none⟩,
  ⟨.len (.tmp 72), (some 73), none, [2], none⟩,
  ⟨.bin .lss (.tmp 70) (.tmp 73), (some 74), none, [0, 3], none⟩]
def d38r16 : List RO := [
  ⟨.addOff 1 (.tmp 4), (some 77), none, [], none⟩,
  ⟨.load 1 false (.tmp 77), (some 78), none, [0], none⟩,
  ⟨.mov (.tmp 13), (some 79), none, [], none⟩,
  ⟨.idxAddr 5 (.tmp 78) (.tmp 79), (some 80), none, [1, 2], none⟩,
  ⟨.load 5 true (.tmp 80), (some 81), none, [3], none⟩,
  ⟨.alloc [(.v (.int .i64 0)), (.v (.int .i64 0)), (.v (.int .i64 0)), (.v (.int .i64 0)), .nil0], (some 14), none, [], none⟩,
  ⟨.store 5 (.tmp 14) (.tmp 81), none, none, [5, 4, 0, 1, 2, 3, 4, 5], none⟩]
def d38r17 : List RO := [
  ⟨.addOff 0 (.tmp 14), (some 82), none, [], none⟩,
  ⟨.load 1 false (.tmp 82), (some 83), none, [0], none⟩,
  ⟨.addOff 1 (.tmp 5), (some 84), none, [], none⟩,
  ⟨.load 1 false (.tmp 84), (some 85), none, [2], none⟩,
  ⟨.bin .eql (.tmp 83) (.tmp 85), (some 86), none, [1, 3], none⟩,
  ⟨.mov (.tmp 86), (some 87), none, [4], none⟩,
  ⟨.addOff 1 (.tmp 14), (some 88), (some (87, true)), [5], none⟩,
  ⟨.load 1 false (.tmp 88), (some 89), (some (87, true)), [6, 5], none⟩,
  ⟨.addOff 2 (.tmp 5), (some 90), (some (87, true)), [5], none⟩,
  ⟨.load 1 false (.tmp 90), (some 91), (some (87, true)), [8, 5], none⟩,
  ⟨.bin .eql (.tmp 89) (.tmp 91), (some 92), (some (87, true)), [7, 9, 5], none⟩,
  ⟨.pick (.tmp 87) (.tmp 92) (.con (.v (.bool false))), (some 93), none, [5, 10], none⟩,
  ⟨.mov (.tmp 93), (some 94), none, [11, 5], none⟩,
  ⟨.addOff 2 (.tmp 14), (some 95), (some (94, true)), [12], none⟩,
  ⟨.load 1 false (.tmp 95), (some 96), (some (94, true)), [13, 12], none⟩,
  ⟨.addOff 2 (.tmp 11), (some 97), (some (94, true)), [12], none⟩,
  ⟨.load 1 false (.tmp 97), (some 98), (some (94, true)), [15, 12], none⟩,
  ⟨.bin .eql (.tmp 96) (.tmp 98), (some 99), (some (94, true)), [14, 16, 12], none⟩,
  ⟨.pick (.tmp 94) (.tmp 99) (.con (.v (.bool false))), (some 100), none, [12, 17], none⟩]
def d38r18 : List RO := [
  ⟨.mov (.tmp 10), (some 101), none, [], none⟩,
  ⟨.mov (.tmp 13), (some 102), none, [], none⟩,
  ⟨.build [(.v (.int .i64 0)), (.v (.int .i64 0))] [(0, 1, (.tmp 101)), (1, 1, (.tmp 102))], (some 103), none, [0, 1], none⟩,
  ⟨.addOff 3 (.tmp 12), (some 104), none, [0, 1, 2], none⟩,
  ⟨.store 2 (.tmp 104) (.tmp 103), none, none, [3, 2, 0, 1, 2], none⟩]
def d38r19 : List RO := [
  ⟨.addOff 4 (.tmp 11), (some 105), none, [], none⟩,
  ⟨.load 1 false (.tmp 105), (some 106), none, [0], none⟩,
  ⟨.addOff 3 (.tmp 14), (some 107), none, [], none⟩,
  ⟨.load 1 false (.tmp 107), (some 108), none, [2], none⟩,
  ⟨.bin .add (.tmp 106) (.tmp 108), (some 109), none, [1, 3], none⟩,
  ⟨.minmax false (.tmp 109) (.con (.v (.int .i64 1099511627776))), (some 110), none, [4], none⟩,
  ⟨.addOff 2 (.tmp 12), (some 111), none, [0, 1, 2, 3, 4, 5], none⟩,
  ⟨.store 1 (.tmp 111) (.tmp 110), none, none, [6, 5, 0, 1, 2, 3, 4, 5], none⟩]
def d38r20 : List RO := [
  ⟨.mov (.tmp 7), (some 112), none, [], none⟩,
  ⟨.load 5 true (.tmp 12), (some 113), none, [], none⟩,
  ⟨.bslice 1 5 [(.v (.int .i64 0)), .nil0, (.v (.int .i64 0)), (.v (.int .i64 0)), (.v (.int .i64 0))] [(0, 5, (.tmp 113))], (some 114), none, [1], none⟩,
  ⟨.append 47 5 56 (.tmp 112) (.tmp 114), (some 115), none, [0, 2], none⟩,
  ⟨.mov (.tmp 115), (some 7), none, [3, 3, 0, 1, 2, 3], none⟩]
def d38r21 : List RO := [
  ⟨.mov (.tmp 13), (some 75), none, [], none⟩,
  ⟨.bin .add (.tmp 75) (.con (.v (.int .i64 1))), (some 76), none, [0], none⟩,
  ⟨.mov (.tmp 76), (some 13), none, [1, 0, 1], none⟩]
def d38r22 : List RO := [
  ⟨.bin .eql (.tmp 51) (.con (.v (.int .i64 3))), (some 117), none, [], none⟩,
  ⟨.mov (.tmp 117), (some 116), none, [0], none⟩]
def d38r23 : List RO := [
  ⟨.load 4 true (.tmp 3), (some 119), none, [], none⟩,
  ⟨.load 3 true (.tmp 4), (some 120), none, [], none⟩,
  ⟨.addOff 2 (.tmp 11), (some 121), none, [], none⟩,
  ⟨.load 1 false (.tmp 121), (some 122), none, [2], none⟩,
  ⟨.addOff 1 (.tmp 5), (some 123), none, [], none⟩,
  ⟨.load 1 false (.tmp 123), (some 124), none, [4], none⟩,
  ⟨.addOff 2 (.tmp 5), (some 125), none, [], none⟩,
  ⟨.load 1 false (.tmp 125), (some 126), none, [6], none⟩,
  ⟨.build [(.v (.int .i64 0)), (.v (.int .i64 0)), (.v (.int .i64 0))] [(0, 1, (.tmp 122)), (1, 1, (.tmp 124)), (2, 1, (.tmp 126))], (some 127), none, [3, 5, 7], none⟩,
  ⟨.call 18 [(.tmp 119), (.tmp 120), (.tmp 127)], (some 128), none, [0, 1, 8], none⟩,
  ⟨.mov (.tmp 128), (some 118), none, [9], none⟩,
  ⟨.extract 0 (.tmp 118), (some 129), none, [10], none⟩,
  ⟨.extract 1 (.tmp 118), (some 130), none, [10], none⟩,
  ⟨.mov (.tmp 129), (some 15), none, [11, 9, 0, 1, 2, 3, 4, 5, 6, 7, 8, 9, 10, 11], none⟩,
  ⟨.mov (.tmp 130), (some 16), none, [12, 13, 0, 1, 2, 3, 4, 5, 6, 7, 8, 9, 10, 11, 12, 13], none⟩]
def d38r24 : List RO := [
  ⟨.mov (.tmp 10), (some 131), none, [], none⟩,
  ⟨.addOff 1 (.tmp 5), (some 132), none, [], none⟩,
  ⟨.load 1 false (.tmp 132), (some 133), none, [1], none⟩,
  ⟨.build [(.v (.int .i64 0)), (.v (.int .i64 0))] [(0, 1, (.tmp 131)), (1, 1, (.tmp 133))], (some 134), none, [0, 2], none⟩,
  ⟨.addOff 3 (.tmp 12), (some 135), none, [0, 1, 2, 3], none⟩,
  ⟨.store 2 (.tmp 135) (.tmp 134), none, none, [4, 3, 0, 1, 2, 3], none⟩]
def d38r25 : List RO := [
  ⟨.mov (.tmp 15), (some 136), none, [], none⟩,
  ⟨.bslice 1 1 [(.v (.int .i64 0))] [(0, 1, (.tmp 136))], (some 137), none, [0], none⟩,
  ⟨.addOff 1 (.tmp 12), (some 138), none, [0, 1], none⟩,
  ⟨.store 1 (.tmp 138) (.tmp 137), none, none, [2, 1, 0, 1], none⟩]
def d38r26 : List RO := [
  ⟨.mov (.tmp 7), (some 139), none, [], none⟩,
  ⟨.load 5 true (.tmp 12), (some 140), none, [], none⟩,
  ⟨.bslice 1 5 [(.v (.int .i64 0)), .nil0, (.v (.int .i64 0)), (.v (.int .i64 0)), (.v (.int .i64 0))] [(0, 5, (.tmp 140))], (some 141), none, [1], none⟩,
  ⟨.append 47 5 56 (.tmp 139) (.tmp 141), (some 142), none, [0, 2], none⟩,
  ⟨.mov (.tmp 142), (some 7), none, [3, 3, 0, 1, 2, 3], none⟩]
def d38r27 : List RO := [
  ⟨.bin .eql (.tmp 51) (.con (.v (.int .i64 4))), (some 144), none, [], none⟩,
  ⟨.mov (.tmp 144), (some 143), none, [0], none⟩]
def d38r28 : List RO := [
  ⟨.addOff 1 (.tmp 5), (some 145), none, [], none⟩,
  ⟨.load 1 false (.tmp 145), (some 146), none, [0], none⟩,
  ⟨.mov (.tmp 146), (some 17), none, [1, 0, 1], none⟩]
def d38r29 : List RO := [
  ⟨.mov (.tmp 17), (some 147), none, [], none⟩,
  ⟨.addOff 2 (.tmp 5), (some 148), none, [], none⟩,
  ⟨.load 1 false (.tmp 148), (some 149), none, [1], none⟩,
  ⟨.bin .leq (.tmp 147) (.tmp 149), (some 150), none, [0, 2], none⟩]
def d38r30 : List RO := [
  ⟨.load 4 true (.tmp 3), (some 154), none, [], none⟩,
  ⟨.load 3 true (.tmp 4), (some 155), none, [], none⟩,
  ⟨.addOff 2 (.tmp 11), (some 156), none, [], none⟩,
  ⟨.load 1 false (.tmp 156), (some 157), none, [2], none⟩,
  ⟨.addOff 1 (.tmp 5), (some 158), none, [], none⟩,
  ⟨.load 1 false (.tmp 158), (some 159), none, [4], none⟩,
  ⟨.mov (.tmp 17), (some 160), none, [], none⟩,
  ⟨.build [(.v (.int .i64 0)), (.v (.int .i64 0)), (.v (.int .i64 0))] [(0, 1, (.tmp 157)), (1, 1, (.tmp 159)), (2, 1, (.tmp 160))], (some 161), none, [3, 5, 6], none⟩,
  ⟨.call 18 [(.tmp 154), (.tmp 155), (.tmp 161)], (some 162), none, [0, 1, 7], none⟩,
  ⟨.mov (.tmp 162), (some 153), none, [8], none⟩,
  ⟨.extract 0 (.tmp 153), (some 163), none, [9], none⟩,
  ⟨.extract 1 (.tmp 153), (some 164), none, [9], none⟩,
  ⟨.mov (.tmp 163), (some 18), none, [10, 8, 0, 1, 2, 3, 4, 5, 6, 7, 8, 9, 10], none⟩,
  ⟨.mov (.tmp 164), (some 19), none, [11, 12, 0, 1, 2, 3, 4, 5, 6, 7, 8, 9, 10, 11, 12], none⟩]
def d38r31 : List RO := [
  ⟨.load 4 true (.tmp 3), (some 166), none, [], none⟩,
  ⟨.load 3 true (.tmp 4), (some 167), none, [], none⟩,
  ⟨.addOff 3 (.tmp 11), (some 168), none, [], none⟩,
  ⟨.load 1 false (.tmp 168), (some 169), none, [2], none⟩,
  ⟨.mov (.tmp 17), (some 170), none, [], none⟩,
  ⟨.addOff 2 (.tmp 5), (some 171), none, [], none⟩,
  ⟨.load 1 false (.tmp 171), (some 172), none, [5], none⟩,
  ⟨.build [(.v (.int .i64 0)), (.v (.int .i64 0)), (.v (.int .i64 0))] [(0, 1, (.tmp 169)), (1, 1, (.tmp 170)), (2, 1, (.tmp 172))], (some 173), none, [3, 4, 6], none⟩,
  ⟨.call 18 [(.tmp 166), (.tmp 167), (.tmp 173)], (some 174), none, [0, 1, 7], none⟩,
  ⟨.mov (.tmp 174), (some 165), none, [8], none⟩,
  ⟨.extract 0 (.tmp 165), (some 175), none, [9], none⟩,
  ⟨.extract 1 (.tmp 165), (some 176), none, [9], none⟩,
  ⟨.mov (.tmp 175), (some 20), none, [10, 8, 0, 1, 2, 3, 4, 5, 6, 7, 8, 9, 10], none⟩,
  ⟨.mov (.tmp 176), (some 21), none, [11, 12, 0, 1, 2, 3, 4, 5, 6, 7, 8, 9, 10, 11, 12], none⟩]
def d38r32 : List RO := [
  ⟨.mov (.tmp 10), (some 177), none, [], none⟩,
  ⟨.mov (.tmp 17), (some 178), none, [], none⟩,
  ⟨.build [(.v (.int .i64 0)), (.v (.int .i64 0))] [(0, 1, (.tmp 177)), (1, 1, (.tmp 178))], (some 179), none, [0, 1], none⟩,
  ⟨.addOff 3 (.tmp 12), (some 180), none, [0, 1, 2], none⟩,
  ⟨.store 2 (.tmp 180) (.tmp 179), none, none, [3, 2, 0, 1, 2], none⟩]
def d38r33 : List RO := [
  ⟨.mov (.tmp 18), (some 181), none, [], none⟩,
  ⟨.mov (.tmp 20), (some 182), none, [], none⟩,
  ⟨.bslice 2 1 [(.v (.int .i64 0)), (.v (.int .i64 0))] [(0, 1, (.tmp 181)), (1, 1, (.tmp 182))], (some 183), none, [0, 1], none⟩,
  ⟨.addOff 1 (.tmp 12), (some 184), none, [0, 1, 2], none⟩,
  ⟨.store 1 (.tmp 184) (.tmp 183), none, none, [3, 2, 0, 1, 2], none⟩]
def d38r34 : List RO := [
  ⟨.mov (.tmp 7), (some 185), none, [], none⟩,
  ⟨.load 5 true (.tmp 12), (some 186), none, [], none⟩,
  ⟨.bslice 1 5 [(.v (.int .i64 0)), .nil0, (.v (.int .i64 0)), (.v (.int .i64 0)), (.v (.int .i64 0))] [(0, 5, (.tmp 186))], (some 187), none, [1], none⟩,
  ⟨.append 47 5 56 (.tmp 185) (.tmp 187), (some 188), none, [0, 2], none⟩,
  ⟨.mov (.tmp 188), (some 7), none, [3, 3, 0, 1, 2, 3], none⟩]
def d38r35 : List RO := [
  ⟨.mov (.tmp 17), (some 151), none, [], none⟩,
  ⟨.bin .add (.tmp 151) (.con (.v (.int .i64 1))), (some 152), none, [0], none⟩,
  ⟨.mov (.tmp 152), (some 17), none, [1, 0, 1], none⟩]
def d38r36 : List RO := [
  ⟨.mov (.tmp 10), (some 34), none, [], none⟩,
  ⟨.bin .add (.tmp 34) (.con (.v (.int .i64 1))), (some 35), none, [0], none⟩,
  ⟨.mov (.tmp 35), (some 10), none, [1, 0, 1], none⟩]
def d38r37 : List RO := [
  ⟨.mov (.tmp 7), (some 189), none, [], none⟩,
  ⟨.mov (.tmp 189), (some 6), none, [0, 0], none⟩]
def d38 : DC := (.seq (.region false d38r0)
  (.seq (.region false d38r1)
  (.seq (.region false d38r2)
  (.seq (.seq (.region false d38r3)
  (.block 0 (.loop (.seq (.seq (.region false d38r4)
  (.cond (.tmp 33) .skip
  (.exit 0)))
  (.seq (.block 1 (.seq (.region false d38r5)
  (.seq (.seq (.region false d38r6)
  (.cond (.tmp 45) (.exit 1)
  .skip))
  (.seq (.region false d38r7)
  (.seq (.region false d38r8)
  (.block 2 (.seq (.region false d38r9)
  (.cond (.tmp 52) (.seq (.region false d38r10)
  (.cond (.tmp 58) (.seq (.region false d38r11)
  (.region false d38r12))
  .skip))
  (.seq (.region false d38r13)
  (.cond (.tmp 68) (.seq (.region false d38r14)
  (.block 3 (.loop (.seq (.seq (.region false d38r15)
  (.cond (.tmp 74) .skip
  (.exit 3)))
  (.seq (.block 4 (.seq (.region false d38r16)
  (.seq (.region false d38r17)
  (.cond (.tmp 100) (.seq (.region false d38r18)
  (.seq (.region false d38r19)
  (.region false d38r20)))
  .skip))))
  (.region false d38r21))))))
  (.seq (.region false d38r22)
  (.cond (.tmp 116) (.seq (.region false d38r23)
  (.seq (.region false d38r24)
  (.seq (.region false d38r25)
  (.region false d38r26))))
  (.seq (.region false d38r27)
  (.cond (.tmp 143) (.seq (.region false d38r28)
  (.block 5 (.loop (.seq (.seq (.region false d38r29)
  (.cond (.tmp 150) .skip
  (.exit 5)))
  (.seq (.block 6 (.seq (.region false d38r30)
  (.seq (.region false d38r31)
  (.seq (.region false d38r32)
  (.seq (.region false d38r33)
  (.region false d38r34))))))
  (.region false d38r35))))))
  .skip))))))))))))))
  (.region false d38r36))))))
  (.seq (.region false d38r37)
  .ret)))))
def d38res : List DRes := [.slot 6]
theorem c38 : CodeOf Try.prog 38 190 d38 d38res := ⟨Try.f38, by kernel_rfl, by kernel_rfl, by kernel_rfl, by kernel_rfl, by kernel_rfl⟩
end Go.Proofs
