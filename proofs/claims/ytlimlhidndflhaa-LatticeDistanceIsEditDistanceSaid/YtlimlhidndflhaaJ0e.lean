import Derived.Test.YtlimlhidndflhaaJ0c
import Derived.KernelRfl
import Derived.Test.YtlimlhidndflhaaMe
set_option maxRecDepth 100000

namespace Go.Proofs
open Go.DM

-- emendate/emendateref36.Terminals
def d41r0 : List RO := [
  ⟨.box (.tmp 0), (some 2), none, [], none⟩,
  ⟨.mov (.con (.v (.bool false))), (some 4), none, [], none⟩]
def d41r1 : List RO := [
  ⟨.mov (.con (.v (.int .i64 0))), (some 5), none, [], none⟩]
def d41r2 : List RO := [
  ⟨.mov (.tmp 5), (some 6), none, [], none⟩,
  ⟨.mov (.tmp 1), (some 7), none, [], none⟩,
  ⟨.len (.tmp 7), (some 8), none, [1], none⟩,
  ⟨.bin .lss (.tmp 6) (.tmp 8), (some 9), none, [0, 2], none⟩]
def d41r3 : List RO := [
  ⟨.mov (.tmp 1), (some 12), none, [], none⟩,
  ⟨.mov (.tmp 5), (some 13), none, [], none⟩,
  ⟨.idxAddr 1 (.tmp 12) (.tmp 13), (some 14), none, [0, 1], none⟩,
  ⟨.load 1 false (.tmp 14), (some 15), none, [2], none⟩,
  ⟨.bin .lss (.tmp 15) (.con (.v (.int .i64 0))), (some 16), none, [3], none⟩,
  ⟨.mov (.tmp 16), (some 17), none, [4], none⟩,
  ⟨.mov (.tmp 1), (some 18), (some (17, false)), [5], none⟩,
  ⟨.mov (.tmp 5), (some 19), (some (17, false)), [5], none⟩,
  ⟨.idxAddr 1 (.tmp 18) (.tmp 19), (some 20), (some (17, false)), [6, 7, 5], none⟩,
  ⟨.load 1 false (.tmp 20), (some 21), (some (17, false)), [8, 5], none⟩,
  ⟨.addOff 1 (.tmp 2), (some 22), (some (17, false)), [5], none⟩,
  ⟨.load 1 false (.tmp 22), (some 23), (some (17, false)), [10, 5], none⟩,
  ⟨.len (.tmp 23), (some 24), (some (17, false)), [11, 5], none⟩,
  ⟨.bin .geq (.tmp 21) (.tmp 24), (some 25), (some (17, false)), [9, 12, 5], none⟩,
  ⟨.pick (.tmp 17) (.con (.v (.bool true))) (.tmp 25), (some 26), none, [5, 13], none⟩]
def d41r4 : List RO := [
  ⟨.mov (.con (.v (.bool false))), (some 4), none, [], none⟩]
def d41r5 : List RO := [
  ⟨.mov (.tmp 5), (some 10), none, [], none⟩,
  ⟨.bin .add (.tmp 10) (.con (.v (.int .i64 1))), (some 11), none, [0], none⟩,
  ⟨.mov (.tmp 11), (some 5), none, [1, 0, 1], none⟩]
def d41r6 : List RO := [
  ⟨.mov (.con (.v (.bool true))), (some 4), none, [], none⟩]
def d41 : DC := (.seq (.region false d41r0)
  (.seq (.seq (.region false d41r1)
  (.block 0 (.loop (.seq (.seq (.region false d41r2)
  (.cond (.tmp 9) .skip
  (.exit 0)))
  (.seq (.block 1 (.seq (.region true d41r3)
  (.cond (.tmp 26) (.seq (.region false d41r4)
  .ret)
  .skip)))
  (.region false d41r5))))))
  (.seq (.region false d41r6)
  .ret)))
def d41res : List DRes := [.slot 4]
theorem c41 : CodeOf Try.prog 41 27 d41 d41res := ⟨Try.f41, by kernel_rfl, by kernel_rfl, by kernel_rfl, by kernel_rfl, by kernel_rfl⟩
-- emendate/emendateref36.plus
def d72r0 : List RO := [
  ⟨.mov (.con (.v (.int .i64 0))), (some 4), none, [], none⟩]
def d72r1 : List RO := [
  ⟨.mov (.tmp 0), (some 5), none, [], none⟩,
  ⟨.mov (.tmp 1), (some 6), none, [], none⟩,
  ⟨.bin .add (.tmp 5) (.tmp 6), (some 7), none, [0, 1], none⟩,
  ⟨.minmax false (.tmp 7) (.con (.v (.int .i64 1099511627776))), (some 8), none, [2], none⟩,
  ⟨.mov (.tmp 8), (some 4), none, [3, 0, 1, 2, 3], none⟩]
def d72 : DC := (.seq (.region false d72r0)
  (.seq (.region false d72r1)
  .ret))
def d72res : List DRes := [.slot 4]
theorem c72 : CodeOf Try.prog 72 9 d72 d72res := ⟨Try.f72, by kernel_rfl, by kernel_rfl, by kernel_rfl, by kernel_rfl, by kernel_rfl⟩
-- emendate/emendateref36.swappable
def d73r0 : List RO := [
  ⟨.box (.tmp 0), (some 2), none, [], none⟩,
  ⟨.mov (.con (.v (.bool false))), (some 4), none, [], none⟩]
def d73r1 : List RO := [
  ⟨.addOff 2 (.tmp 2), (some 5), none, [], none⟩,
  ⟨.load 1 false (.tmp 5), (some 6), none, [0], none⟩,
  ⟨.bin .gtr (.tmp 6) (.con (.v (.int .i64 0))), (some 7), none, [1], none⟩,
  ⟨.mov (.tmp 7), (some 8), none, [2], none⟩,
  ⟨.mov (.tmp 1), (some 9), (some (8, true)), [3], none⟩,
  ⟨.bin .add (.tmp 9) (.con (.v (.int .i64 1))), (some 10), (some (8, true)), [4, 3], none⟩,
  ⟨.addOff 0 (.tmp 2), (some 11), (some (8, true)), [3], none⟩,
  ⟨.load 1 false (.tmp 11), (some 12), (some (8, true)), [6, 3], none⟩,
  ⟨.len (.tmp 12), (some 13), (some (8, true)), [7, 3], none⟩,
  ⟨.bin .lss (.tmp 10) (.tmp 13), (some 14), (some (8, true)), [5, 8, 3], none⟩,
  ⟨.pick (.tmp 8) (.tmp 14) (.con (.v (.bool false))), (some 15), none, [3, 9], none⟩,
  ⟨.mov (.tmp 15), (some 16), none, [10, 3], none⟩,
  ⟨.addOff 0 (.tmp 2), (some 17), (some (16, true)), [11], none⟩,
  ⟨.load 1 false (.tmp 17), (some 18), (some (16, true)), [12, 11], none⟩,
  ⟨.mov (.tmp 1), (some 19), (some (16, true)), [11], none⟩,
  ⟨.idxAddr 3 (.tmp 18) (.tmp 19), (some 20), (some (16, true)), [13, 14, 11], none⟩,
  ⟨.addOff 0 (.tmp 20), (some 21), (some (16, true)), [15, 11], none⟩,
  ⟨.load 1 false (.tmp 21), (some 22), (some (16, true)), [16, 11], none⟩,
  ⟨.bin .geq (.tmp 22) (.con (.v (.int .i64 0))), (some 23), (some (16, true)), [17, 11], none⟩,
  ⟨.pick (.tmp 16) (.tmp 23) (.con (.v (.bool false))), (some 24), none, [11, 18], none⟩,
  ⟨.mov (.tmp 24), (some 25), none, [19, 11], none⟩,
  ⟨.addOff 0 (.tmp 2), (some 26), (some (25, true)), [20], none⟩,
  ⟨.load 1 false (.tmp 26), (some 27), (some (25, true)), [21, 20], none⟩,
  ⟨.mov (.tmp 1), (some 28), (some (25, true)), [20], none⟩,
  ⟨.bin .add (.tmp 28) (.con (.v (.int .i64 1))), (some 29), (some (25, true)), [23, 20], none⟩,
  ⟨.idxAddr 3 (.tmp 27) (.tmp 29), (some 30), (some (25, true)), [22, 24, 20], none⟩,
  ⟨.addOff 0 (.tmp 30), (some 31), (some (25, true)), [25, 20], none⟩,
  ⟨.load 1 false (.tmp 31), (some 32), (some (25, true)), [26, 20], none⟩,
  ⟨.bin .geq (.tmp 32) (.con (.v (.int .i64 0))), (some 33), (some (25, true)), [27, 20], none⟩,
  ⟨.pick (.tmp 25) (.tmp 33) (.con (.v (.bool false))), (some 34), none, [20, 28], none⟩,
  ⟨.mov (.tmp 34), (some 4), none, [29, 20, 0, 1, 2, 3, 4, 5, 6, 7, 8, 9, 10, 11, 12, 13, 14, 15, 16, 17, 18, 19, 20, 21, 22, 23, 24, 25, 26, 27, 28, 29], none⟩]
def d73 : DC := (.seq (.region false d73r0)
  (.seq (.region false d73r1)
  .ret))
def d73res : List DRes := [.slot 4]
theorem c73 : CodeOf Try.prog 73 35 d73 d73res := ⟨Try.f73, by kernel_rfl, by kernel_rfl, by kernel_rfl, by kernel_rfl, by kernel_rfl⟩
-- emendate/emendateref36.step
def d55r0 : List RO := [
  ⟨.box (.tmp 0), (some 7), none, [], none⟩,
  ⟨.mov (.con (.v (.int .i64 0))), (some 14), none, [], none⟩]
def d55r1 : List RO := [
  ⟨.addOff 0 (.tmp 7), (some 16), none, [], none⟩,
  ⟨.load 1 false (.tmp 16), (some 17), none, [0], none⟩,
  ⟨.len (.tmp 17), (some 18), none, [1], none⟩,
  ⟨.mov (.tmp 18), (some 15), none, [2, 0, 1, 2], none⟩]
def d55r2 : List RO := [
  ⟨.mov (.tmp 6), (some 20), none, [], none⟩,
  ⟨.bin .eql (.tmp 20) (.con (.v (.int .i64 1))), (some 21), none, [0], none⟩,
  ⟨.mov (.tmp 21), (some 22), none, [1], none⟩,
  ⟨.mov (.tmp 4), (some 23), (some (22, true)), [2], none⟩,
  ⟨.mov (.tmp 15), (some 24), (some (22, true)), [2], none⟩,
  ⟨.bin .lss (.tmp 23) (.tmp 24), (some 25), (some (22, true)), [3, 4, 2], none⟩,
  ⟨.pick (.tmp 22) (.tmp 25) (.con (.v (.bool false))), (some 26), none, [2, 5], none⟩,
  ⟨.mov (.tmp 26), (some 27), none, [6, 2], none⟩,
  ⟨.mov (.tmp 5), (some 28), (some (27, true)), [7], none⟩,
  ⟨.mov (.tmp 1), (some 29), (some (27, true)), [7], none⟩,
  ⟨.len (.tmp 29), (some 30), (some (27, true)), [9, 7], none⟩,
  ⟨.bin .lss (.tmp 28) (.tmp 30), (some 31), (some (27, true)), [8, 10, 7], none⟩,
  ⟨.pick (.tmp 27) (.tmp 31) (.con (.v (.bool false))), (some 32), none, [7, 11], none⟩,
  ⟨.mov (.tmp 32), (some 33), none, [12, 7], none⟩,
  ⟨.addOff 0 (.tmp 7), (some 34), (some (33, true)), [13], none⟩,
  ⟨.load 1 false (.tmp 34), (some 35), (some (33, true)), [14, 13], none⟩,
  ⟨.mov (.tmp 4), (some 36), (some (33, true)), [13], none⟩,
  ⟨.idxAddr 3 (.tmp 35) (.tmp 36), (some 37), (some (33, true)), [15, 16, 13], none⟩,
  ⟨.addOff 1 (.tmp 37), (some 38), (some (33, true)), [17, 13], none⟩,
  ⟨.load 1 false (.tmp 38), (some 39), (some (33, true)), [18, 13], none⟩,
  ⟨.mov (.tmp 1), (some 40), (some (33, true)), [13], none⟩,
  ⟨.mov (.tmp 5), (some 41), (some (33, true)), [13], none⟩,
  ⟨.idxAddr 1 (.tmp 40) (.tmp 41), (some 42), (some (33, true)), [20, 21, 13], none⟩,
  ⟨.load 1 false (.tmp 42), (some 43), (some (33, true)), [22, 13], none⟩,
  ⟨.idxAddr 1 (.tmp 39) (.tmp 43), (some 44), (some (33, true)), [19, 23, 13], none⟩,
  ⟨.load 1 false (.tmp 44), (some 45), (some (33, true)), [24, 13], none⟩,
  ⟨.bin .geq (.tmp 45) (.con (.v (.int .i64 0))), (some 46), (some (33, true)), [25, 13], none⟩,
  ⟨.pick (.tmp 33) (.tmp 46) (.con (.v (.bool false))), (some 47), none, [13, 26], none⟩,
  ⟨.mov (.tmp 47), (some 19), none, [27, 13], none⟩]
def d55r3 : List RO := [
  ⟨.addOff 0 (.tmp 7), (some 48), none, [], none⟩,
  ⟨.load 1 false (.tmp 48), (some 49), none, [0], none⟩,
  ⟨.mov (.tmp 4), (some 50), none, [], none⟩,
  ⟨.idxAddr 3 (.tmp 49) (.tmp 50), (some 51), none, [1, 2], none⟩,
  ⟨.addOff 1 (.tmp 51), (some 52), none, [3], none⟩,
  ⟨.load 1 false (.tmp 52), (some 53), none, [4], none⟩,
  ⟨.mov (.tmp 1), (some 54), none, [], none⟩,
  ⟨.mov (.tmp 5), (some 55), none, [], none⟩,
  ⟨.idxAddr 1 (.tmp 54) (.tmp 55), (some 56), none, [6, 7], none⟩,
  ⟨.load 1 false (.tmp 56), (some 57), none, [8], none⟩,
  ⟨.idxAddr 1 (.tmp 53) (.tmp 57), (some 58), none, [5, 9], none⟩,
  ⟨.load 1 false (.tmp 58), (some 59), none, [10], none⟩,
  ⟨.mov (.tmp 2), (some 60), none, [], none⟩,
  ⟨.mov (.tmp 4), (some 61), none, [], none⟩,
  ⟨.bin .add (.tmp 61) (.con (.v (.int .i64 1))), (some 62), none, [13], none⟩,
  ⟨.mov (.tmp 3), (some 63), none, [], none⟩,
  ⟨.bin .mul (.tmp 62) (.tmp 63), (some 64), none, [14, 15], none⟩,
  ⟨.mov (.tmp 5), (some 65), none, [], none⟩,
  ⟨.bin .add (.tmp 64) (.tmp 65), (some 66), none, [16, 17], none⟩,
  ⟨.bin .add (.tmp 66) (.con (.v (.int .i64 1))), (some 67), none, [18], none⟩,
  ⟨.idxAddr 1 (.tmp 60) (.tmp 67), (some 68), none, [12, 19], none⟩,
  ⟨.load 1 false (.tmp 68), (some 69), none, [20], none⟩,
  ⟨.call 72 [(.tmp 59), (.tmp 69)], (some 70), none, [11, 21], none⟩,
  ⟨.mov (.tmp 70), (some 14), none, [22, 22, 0, 1, 2, 3, 4, 5, 6, 7, 8, 9, 10, 11, 12, 13, 14, 15, 16, 17, 18, 19, 20, 21, 22], none⟩]
def d55r4 : List RO := [
  ⟨.mov (.tmp 6), (some 72), none, [], none⟩,
  ⟨.bin .eql (.tmp 72) (.con (.v (.int .i64 2))), (some 73), none, [0], none⟩,
  ⟨.mov (.tmp 73), (some 74), none, [1], none⟩,
  ⟨.mov (.tmp 4), (some 75), (some (74, true)), [2], none⟩,
  ⟨.mov (.tmp 15), (some 76), (some (74, true)), [2], none⟩,
  ⟨.bin .lss (.tmp 75) (.tmp 76), (some 77), (some (74, true)), [3, 4, 2], none⟩,
  ⟨.pick (.tmp 74) (.tmp 77) (.con (.v (.bool false))), (some 78), none, [2, 5], none⟩,
  ⟨.mov (.tmp 78), (some 71), none, [6, 2], none⟩]
def d55r5 : List RO := [
  ⟨.addOff 0 (.tmp 7), (some 79), none, [], none⟩,
  ⟨.load 1 false (.tmp 79), (some 80), none, [0], none⟩,
  ⟨.mov (.tmp 4), (some 81), none, [], none⟩,
  ⟨.idxAddr 3 (.tmp 80) (.tmp 81), (some 82), none, [1, 2], none⟩,
  ⟨.addOff 2 (.tmp 82), (some 83), none, [3], none⟩,
  ⟨.load 1 false (.tmp 83), (some 84), none, [4], none⟩,
  ⟨.mov (.tmp 2), (some 85), none, [], none⟩,
  ⟨.mov (.tmp 4), (some 86), none, [], none⟩,
  ⟨.bin .add (.tmp 86) (.con (.v (.int .i64 1))), (some 87), none, [7], none⟩,
  ⟨.mov (.tmp 3), (some 88), none, [], none⟩,
  ⟨.bin .mul (.tmp 87) (.tmp 88), (some 89), none, [8, 9], none⟩,
  ⟨.mov (.tmp 5), (some 90), none, [], none⟩,
  ⟨.bin .add (.tmp 89) (.tmp 90), (some 91), none, [10, 11], none⟩,
  ⟨.idxAddr 1 (.tmp 85) (.tmp 91), (some 92), none, [6, 12], none⟩,
  ⟨.load 1 false (.tmp 92), (some 93), none, [13], none⟩,
  ⟨.call 72 [(.tmp 84), (.tmp 93)], (some 94), none, [5, 14], none⟩,
  ⟨.mov (.tmp 94), (some 14), none, [15, 15, 0, 1, 2, 3, 4, 5, 6, 7, 8, 9, 10, 11, 12, 13, 14, 15], none⟩]
def d55r6 : List RO := [
  ⟨.mov (.tmp 6), (some 96), none, [], none⟩,
  ⟨.bin .eql (.tmp 96) (.con (.v (.int .i64 3))), (some 97), none, [0], none⟩,
  ⟨.mov (.tmp 97), (some 98), none, [1], none⟩,
  ⟨.mov (.tmp 5), (some 99), (some (98, true)), [2], none⟩,
  ⟨.mov (.tmp 1), (some 100), (some (98, true)), [2], none⟩,
  ⟨.len (.tmp 100), (some 101), (some (98, true)), [4, 2], none⟩,
  ⟨.bin .lss (.tmp 99) (.tmp 101), (some 102), (some (98, true)), [3, 5, 2], none⟩,
  ⟨.pick (.tmp 98) (.tmp 102) (.con (.v (.bool false))), (some 103), none, [2, 6], none⟩,
  ⟨.mov (.tmp 103), (some 95), none, [7, 2], none⟩]
def d55r7 : List RO := [
  ⟨.addOff 1 (.tmp 7), (some 104), none, [], none⟩,
  ⟨.load 1 false (.tmp 104), (some 105), none, [0], none⟩,
  ⟨.mov (.tmp 1), (some 106), none, [], none⟩,
  ⟨.mov (.tmp 5), (some 107), none, [], none⟩,
  ⟨.idxAddr 1 (.tmp 106) (.tmp 107), (some 108), none, [2, 3], none⟩,
  ⟨.load 1 false (.tmp 108), (some 109), none, [4], none⟩,
  ⟨.idxAddr 1 (.tmp 105) (.tmp 109), (some 110), none, [1, 5], none⟩,
  ⟨.load 1 false (.tmp 110), (some 111), none, [6], none⟩,
  ⟨.mov (.tmp 2), (some 112), none, [], none⟩,
  ⟨.mov (.tmp 4), (some 113), none, [], none⟩,
  ⟨.mov (.tmp 3), (some 114), none, [], none⟩,
  ⟨.bin .mul (.tmp 113) (.tmp 114), (some 115), none, [9, 10], none⟩,
  ⟨.mov (.tmp 5), (some 116), none, [], none⟩,
  ⟨.bin .add (.tmp 115) (.tmp 116), (some 117), none, [11, 12], none⟩,
  ⟨.bin .add (.tmp 117) (.con (.v (.int .i64 1))), (some 118), none, [13], none⟩,
  ⟨.idxAddr 1 (.tmp 112) (.tmp 118), (some 119), none, [8, 14], none⟩,
  ⟨.load 1 false (.tmp 119), (some 120), none, [15], none⟩,
  ⟨.call 72 [(.tmp 111), (.tmp 120)], (some 121), none, [7, 16], none⟩,
  ⟨.mov (.tmp 121), (some 14), none, [17, 17, 0, 1, 2, 3, 4, 5, 6, 7, 8, 9, 10, 11, 12, 13, 14, 15, 16, 17], none⟩]
def d55r8 : List RO := [
  ⟨.mov (.tmp 6), (some 123), none, [], none⟩,
  ⟨.bin .eql (.tmp 123) (.con (.v (.int .i64 4))), (some 124), none, [0], none⟩,
  ⟨.mov (.tmp 124), (some 125), none, [1], none⟩,
  ⟨.load 3 true (.tmp 7), (some 126), (some (125, true)), [2], none⟩,
  ⟨.mov (.tmp 4), (some 127), (some (125, true)), [2], none⟩,
  ⟨.call 73 [(.tmp 126), (.tmp 127)], (some 128), (some (125, true)), [3, 4, 2, 2], none⟩,
  ⟨.pick (.tmp 125) (.tmp 128) (.con (.v (.bool false))), (some 129), none, [2, 5], none⟩,
  ⟨.mov (.tmp 129), (some 130), none, [6, 5], none⟩,
  ⟨.mov (.tmp 5), (some 131), (some (130, true)), [7], none⟩,
  ⟨.bin .add (.tmp 131) (.con (.v (.int .i64 1))), (some 132), (some (130, true)), [8, 7], none⟩,
  ⟨.mov (.tmp 1), (some 133), (some (130, true)), [7], none⟩,
  ⟨.len (.tmp 133), (some 134), (some (130, true)), [10, 7], none⟩,
  ⟨.bin .lss (.tmp 132) (.tmp 134), (some 135), (some (130, true)), [9, 11, 7], none⟩,
  ⟨.pick (.tmp 130) (.tmp 135) (.con (.v (.bool false))), (some 136), none, [7, 12], none⟩,
  ⟨.mov (.tmp 136), (some 137), none, [13, 7], none⟩,
  ⟨.mov (.tmp 1), (some 138), (some (137, true)), [14], none⟩,
  ⟨.mov (.tmp 5), (some 139), (some (137, true)), [14], none⟩,
  ⟨.idxAddr 1 (.tmp 138) (.tmp 139), (some 140), (some (137, true)), [15, 16, 14], none⟩,
  ⟨.load 1 false (.tmp 140), (some 141), (some (137, true)), [17, 14], none⟩,
  ⟨.addOff 0 (.tmp 7), (some 142), (some (137, true)), [14], none⟩,
  ⟨.load 1 false (.tmp 142), (some 143), (some (137, true)), [19, 14], none⟩,
  ⟨.mov (.tmp 4), (some 144), (some (137, true)), [14], none⟩,
  ⟨.bin .add (.tmp 144) (.con (.v (.int .i64 1))), (some 145), (some (137, true)), [21, 14], none⟩,
  ⟨.idxAddr 3 (.tmp 143) (.tmp 145), (some 146), (some (137, true)), [20, 22, 14], none⟩,
  ⟨.addOff 0 (.tmp 146), (some 147), (some (137, true)), [23, 14], none⟩,
  ⟨.load 1 false (.tmp 147), (some 148), (some (137, true)), [24, 14], none⟩,
  ⟨.bin .eql (.tmp 141) (.tmp 148), (some 149), (some (137, true)), [18, 25, 14], none⟩,
  ⟨.pick (.tmp 137) (.tmp 149) (.con (.v (.bool false))), (some 150), none, [14, 26], none⟩,
  ⟨.mov (.tmp 150), (some 151), none, [27, 14], none⟩,
  ⟨.mov (.tmp 1), (some 152), (some (151, true)), [28], none⟩,
  ⟨.mov (.tmp 5), (some 153), (some (151, true)), [28], none⟩,
  ⟨.bin .add (.tmp 153) (.con (.v (.int .i64 1))), (some 154), (some (151, true)), [30, 28], none⟩,
  ⟨.idxAddr 1 (.tmp 152) (.tmp 154), (some 155), (some (151, true)), [29, 31, 28], none⟩,
  ⟨.load 1 false (.tmp 155), (some 156), (some (151, true)), [32, 28], none⟩,
  ⟨.addOff 0 (.tmp 7), (some 157), (some (151, true)), [28], none⟩,
  ⟨.load 1 false (.tmp 157), (some 158), (some (151, true)), [34, 28], none⟩,
  ⟨.mov (.tmp 4), (some 159), (some (151, true)), [28], none⟩,
  ⟨.idxAddr 3 (.tmp 158) (.tmp 159), (some 160), (some (151, true)), [35, 36, 28], none⟩,
  ⟨.addOff 0 (.tmp 160), (some 161), (some (151, true)), [37, 28], none⟩,
  ⟨.load 1 false (.tmp 161), (some 162), (some (151, true)), [38, 28], none⟩,
  ⟨.bin .eql (.tmp 156) (.tmp 162), (some 163), (some (151, true)), [33, 39, 28], none⟩,
  ⟨.pick (.tmp 151) (.tmp 163) (.con (.v (.bool false))), (some 164), none, [28, 40], none⟩,
  ⟨.mov (.tmp 164), (some 122), none, [41, 28], none⟩]
def d55r9 : List RO := [
  ⟨.addOff 2 (.tmp 7), (some 165), none, [], none⟩,
  ⟨.load 1 false (.tmp 165), (some 166), none, [0], none⟩,
  ⟨.mov (.tmp 2), (some 167), none, [], none⟩,
  ⟨.mov (.tmp 4), (some 168), none, [], none⟩,
  ⟨.bin .add (.tmp 168) (.con (.v (.int .i64 2))), (some 169), none, [3], none⟩,
  ⟨.mov (.tmp 3), (some 170), none, [], none⟩,
  ⟨.bin .mul (.tmp 169) (.tmp 170), (some 171), none, [4, 5], none⟩,
  ⟨.mov (.tmp 5), (some 172), none, [], none⟩,
  ⟨.bin .add (.tmp 171) (.tmp 172), (some 173), none, [6, 7], none⟩,
  ⟨.bin .add (.tmp 173) (.con (.v (.int .i64 2))), (some 174), none, [8], none⟩,
  ⟨.idxAddr 1 (.tmp 167) (.tmp 174), (some 175), none, [2, 9], none⟩,
  ⟨.load 1 false (.tmp 175), (some 176), none, [10], none⟩,
  ⟨.call 72 [(.tmp 166), (.tmp 176)], (some 177), none, [1, 11], none⟩,
  ⟨.mov (.tmp 177), (some 14), none, [12, 12, 0, 1, 2, 3, 4, 5, 6, 7, 8, 9, 10, 11, 12], none⟩]
def d55r10 : List RO := [
  ⟨.mov (.con (.v (.int .i64 1099511627776))), (some 14), none, [], none⟩]
def d55 : DC := (.seq (.region false d55r0)
  (.seq (.region false d55r1)
  (.seq (.block 0 (.seq (.region true d55r2)
  (.cond (.tmp 19) (.seq (.region true d55r3)
  .ret)
  (.seq (.region false d55r4)
  (.cond (.tmp 71) (.seq (.region true d55r5)
  .ret)
  (.seq (.region false d55r6)
  (.cond (.tmp 95) (.seq (.region true d55r7)
  .ret)
  (.seq (.region true d55r8)
  (.cond (.tmp 122) (.seq (.region true d55r9)
  .ret)
  .skip)))))))))
  (.seq (.region false d55r10)
  .ret))))
def d55res : List DRes := [.slot 14]
theorem c55 : CodeOf Try.prog 55 178 d55 d55res := ⟨Try.f55, by kernel_rfl, by kernel_rfl, by kernel_rfl, by kernel_rfl, by kernel_rfl⟩
-- emendate/emendateref36.table
def d42r0 : List RO := [
  ⟨.box (.tmp 0), (some 2), none, [], none⟩,
  ⟨.mov (.con .nil0), (some 4), none, [], none⟩]
def d42r1 : List RO := [
  ⟨.addOff 0 (.tmp 2), (some 12), none, [], none⟩,
  ⟨.load 1 false (.tmp 12), (some 13), none, [0], none⟩,
  ⟨.len (.tmp 13), (some 14), none, [1], none⟩,
  ⟨.mov (.tmp 1), (some 15), none, [], none⟩,
  ⟨.len (.tmp 15), (some 16), none, [3], none⟩,
  ⟨.bin .add (.tmp 16) (.con (.v (.int .i64 1))), (some 17), none, [4], none⟩,
  ⟨.mov (.tmp 14), (some 5), none, [2, 0, 1, 2], none⟩,
  ⟨.mov (.tmp 17), (some 6), none, [5, 6, 0, 1, 2, 3, 4, 5, 6], none⟩]
def d42r2 : List RO := [
  ⟨.mov (.tmp 5), (some 18), none, [], none⟩,
  ⟨.bin .add (.tmp 18) (.con (.v (.int .i64 1))), (some 19), none, [0], none⟩,
  ⟨.mov (.tmp 6), (some 20), none, [], none⟩,
  ⟨.bin .mul (.tmp 19) (.tmp 20), (some 21), none, [1, 2], none⟩,
  ⟨.mkSlice 3 1 8 [(.int .i64 0)] (.tmp 21), (some 22), none, [3, 3], none⟩,
  ⟨.mov (.tmp 22), (some 7), none, [4, 0, 1, 2, 3, 4], none⟩]
def d42r3 : List RO := [
  ⟨.mov (.tmp 5), (some 23), none, [], none⟩,
  ⟨.mov (.tmp 23), (some 8), none, [0, 0], none⟩]
def d42r4 : List RO := [
  ⟨.mov (.tmp 8), (some 24), none, [], none⟩,
  ⟨.bin .geq (.tmp 24) (.con (.v (.int .i64 0))), (some 25), none, [0], none⟩]
def d42r5 : List RO := [
  ⟨.mov (.tmp 1), (some 28), none, [], none⟩,
  ⟨.len (.tmp 28), (some 29), none, [0], none⟩,
  ⟨.mov (.tmp 29), (some 9), none, [1, 0, 1], none⟩]
def d42r6 : List RO := [
  ⟨.mov (.tmp 9), (some 30), none, [], none⟩,
  ⟨.bin .geq (.tmp 30) (.con (.v (.int .i64 0))), (some 31), none, [0], none⟩]
def d42r7 : List RO := [
  ⟨.mov (.con (.v (.int .i64 1099511627776))), (some 10), none, [], none⟩]
def d42r8 : List RO := [
  ⟨.mov (.tmp 8), (some 34), none, [], none⟩,
  ⟨.mov (.tmp 5), (some 35), none, [], none⟩,
  ⟨.bin .eql (.tmp 34) (.tmp 35), (some 36), none, [0, 1], none⟩,
  ⟨.mov (.tmp 36), (some 37), none, [2], none⟩,
  ⟨.mov (.tmp 9), (some 38), (some (37, true)), [3], none⟩,
  ⟨.mov (.tmp 1), (some 39), (some (37, true)), [3], none⟩,
  ⟨.len (.tmp 39), (some 40), (some (37, true)), [5, 3], none⟩,
  ⟨.bin .eql (.tmp 38) (.tmp 40), (some 41), (some (37, true)), [4, 6, 3], none⟩,
  ⟨.pick (.tmp 37) (.tmp 41) (.con (.v (.bool false))), (some 42), none, [3, 7], none⟩]
def d42r9 : List RO := [
  ⟨.mov (.con (.v (.int .i64 0))), (some 10), none, [], none⟩]
def d42r10 : List RO := [
  ⟨.mov (.con (.v (.int .i64 1))), (some 11), none, [], none⟩]
def d42r11 : List RO := [
  ⟨.mov (.tmp 11), (some 43), none, [], none⟩,
  ⟨.bin .leq (.tmp 43) (.con (.v (.int .i64 4))), (some 44), none, [0], none⟩]
def d42r12 : List RO := [
  ⟨.mov (.tmp 10), (some 47), none, [], none⟩,
  ⟨.load 3 true (.tmp 2), (some 48), none, [], none⟩,
  ⟨.mov (.tmp 1), (some 49), none, [], none⟩,
  ⟨.mov (.tmp 7), (some 50), none, [], none⟩,
  ⟨.mov (.tmp 6), (some 51), none, [], none⟩,
  ⟨.mov (.tmp 8), (some 52), none, [], none⟩,
  ⟨.mov (.tmp 9), (some 53), none, [], none⟩,
  ⟨.mov (.tmp 11), (some 54), none, [], none⟩,
  ⟨.call 55 [(.tmp 48), (.tmp 49), (.tmp 50), (.tmp 51), (.tmp 52), (.tmp 53), (.tmp 54)], (some 55), none, [1, 2, 3, 4, 5, 6, 7], none⟩,
  ⟨.minmax false (.tmp 47) (.tmp 55), (some 56), none, [0, 8], none⟩,
  ⟨.mov (.tmp 56), (some 10), none, [9, 8, 0, 1, 2, 3, 4, 5, 6, 7, 8, 9], none⟩]
def d42r13 : List RO := [
  ⟨.mov (.tmp 11), (some 45), none, [], none⟩,
  ⟨.bin .add (.tmp 45) (.con (.v (.int .i64 1))), (some 46), none, [0], none⟩,
  ⟨.mov (.tmp 46), (some 11), none, [1, 0, 1], none⟩]
def d42r14 : List RO := [
  ⟨.mov (.tmp 7), (some 57), none, [], none⟩,
  ⟨.mov (.tmp 8), (some 58), none, [], none⟩,
  ⟨.mov (.tmp 6), (some 59), none, [], none⟩,
  ⟨.bin .mul (.tmp 58) (.tmp 59), (some 60), none, [1, 2], none⟩,
  ⟨.mov (.tmp 9), (some 61), none, [], none⟩,
  ⟨.bin .add (.tmp 60) (.tmp 61), (some 62), none, [3, 4], none⟩,
  ⟨.mov (.tmp 10), (some 63), none, [], none⟩,
  ⟨.idxAddr 1 (.tmp 57) (.tmp 62), (some 64), none, [0, 5, 0, 1, 2, 3, 4, 5, 6], none⟩,
  ⟨.store 1 (.tmp 64) (.tmp 63), none, none, [7, 6, 0, 1, 2, 3, 4, 5, 6], none⟩]
def d42r15 : List RO := [
  ⟨.mov (.tmp 9), (some 32), none, [], none⟩,
  ⟨.bin .sub (.tmp 32) (.con (.v (.int .i64 1))), (some 33), none, [0], none⟩,
  ⟨.mov (.tmp 33), (some 9), none, [1, 0, 1], none⟩]
def d42r16 : List RO := [
  ⟨.mov (.tmp 8), (some 26), none, [], none⟩,
  ⟨.bin .sub (.tmp 26) (.con (.v (.int .i64 1))), (some 27), none, [0], none⟩,
  ⟨.mov (.tmp 27), (some 8), none, [1, 0, 1], none⟩]
def d42r17 : List RO := [
  ⟨.mov (.tmp 7), (some 65), none, [], none⟩,
  ⟨.mov (.tmp 65), (some 4), none, [0, 0], none⟩]
def d42 : DC := (.seq (.region false d42r0)
  (.seq (.region false d42r1)
  (.seq (.region false d42r2)
  (.seq (.seq (.region false d42r3)
  (.block 0 (.loop (.seq (.seq (.region false d42r4)
  (.cond (.tmp 25) .skip
  (.exit 0)))
  (.seq (.block 1 (.seq (.region false d42r5)
  (.block 2 (.loop (.seq (.seq (.region false d42r6)
  (.cond (.tmp 31) .skip
  (.exit 2)))
  (.seq (.block 3 (.seq (.region false d42r7)
  (.seq (.seq (.region false d42r8)
  (.cond (.tmp 42) (.region false d42r9)
  .skip))
  (.seq (.seq (.region false d42r10)
  (.block 4 (.loop (.seq (.seq (.region false d42r11)
  (.cond (.tmp 44) .skip
  (.exit 4)))
  (.seq (.block 5 (.region false d42r12))
  (.region false d42r13))))))
  (.region false d42r14)))))
  (.region false d42r15)))))))
  (.region false d42r16))))))
  (.seq (.region false d42r17)
  .ret)))))
def d42res : List DRes := [.slot 4]
theorem c42 : CodeOf Try.prog 42 66 d42 d42res := ⟨Try.f42, by kernel_rfl, by kernel_rfl, by kernel_rfl, by kernel_rfl, by kernel_rfl⟩
-- emendate/emendateref36.Distance
def d24r0 : List RO := [
  ⟨.box (.tmp 0), (some 2), none, [], none⟩,
  ⟨.mov (.con (.v (.int .i64 0))), (some 4), none, [], none⟩]
def d24r1 : List RO := [
  ⟨.load 3 true (.tmp 2), (some 5), none, [], none⟩,
  ⟨.mov (.tmp 1), (some 6), none, [], none⟩,
  ⟨.call 41 [(.tmp 5), (.tmp 6)], (some 7), none, [0, 1], none⟩,
  ⟨.un .not (.tmp 7), (some 8), none, [2], none⟩]
def d24r2 : List RO := [
  ⟨.mov (.con (.v (.int .i64 1099511627776))), (some 4), none, [], none⟩]
def d24r3 : List RO := [
  ⟨.load 3 true (.tmp 2), (some 9), none, [], none⟩,
  ⟨.mov (.tmp 1), (some 10), none, [], none⟩,
  ⟨.call 42 [(.tmp 9), (.tmp 10)], (some 11), none, [0, 1], none⟩,
  ⟨.idxAddr 1 (.tmp 11) (.con (.v (.int .i64 0))), (some 12), none, [2], none⟩,
  ⟨.load 1 false (.tmp 12), (some 13), none, [3], none⟩,
  ⟨.mov (.tmp 13), (some 4), none, [4, 2, 0, 1, 2, 3, 4], none⟩]
def d24 : DC := (.seq (.region false d24r0)
  (.seq (.seq (.region false d24r1)
  (.cond (.tmp 8) (.seq (.region false d24r2)
  .ret)
  .skip))
  (.seq (.region false d24r3)
  .ret)))
def d24res : List DRes := [.slot 4]
theorem c24 : CodeOf Try.prog 24 14 d24 d24res := ⟨Try.f24, by kernel_rfl, by kernel_rfl, by kernel_rfl, by kernel_rfl, by kernel_rfl⟩
-- emendate/editscript.proper
def d43r0 : List RO := [
  ⟨.box (.tmp 0), (some 2), none, [], none⟩,
  ⟨.mov (.con (.v (.bool false))), (some 4), none, [], none⟩]
def d43r1 : List RO := [
  ⟨.mov (.tmp 1), (some 7), none, [], none⟩,
  ⟨.len (.tmp 7), (some 8), none, [0], none⟩,
  ⟨.mov (.con (.v (.int .i64 0))), (some 9), none, [], none⟩]
def d43r2 : List RO := [
  ⟨.bin .lss (.tmp 9) (.tmp 8), (some 10), none, [], none⟩]
def d43r3 : List RO := [
  ⟨.idxAddr 1 (.tmp 7) (.tmp 9), (some 11), none, [], none⟩,
  ⟨.load 1 false (.tmp 11), (some 12), none, [0], none⟩,
  ⟨.mov (.tmp 12), (some 6), none, [1, 0, 1], none⟩]
def d43r4 : List RO := [
  ⟨.mov (.tmp 6), (some 13), none, [], none⟩,
  ⟨.bin .lss (.tmp 13) (.con (.v (.int .i64 0))), (some 14), none, [0], none⟩,
  ⟨.mov (.tmp 14), (some 15), none, [1], none⟩,
  ⟨.mov (.tmp 6), (some 16), (some (15, false)), [2], none⟩,
  ⟨.addOff 1 (.tmp 2), (some 17), (some (15, false)), [2], none⟩,
  ⟨.load 1 false (.tmp 17), (some 18), (some (15, false)), [4, 2], none⟩,
  ⟨.len (.tmp 18), (some 19), (some (15, false)), [5, 2], none⟩,
  ⟨.bin .geq (.tmp 16) (.tmp 19), (some 20), (some (15, false)), [3, 6, 2], none⟩,
  ⟨.pick (.tmp 15) (.con (.v (.bool true))) (.tmp 20), (some 21), none, [2, 7], none⟩]
def d43r5 : List RO := [
  ⟨.mov (.con (.v (.bool false))), (some 4), none, [], none⟩]
def d43r6 : List RO := [
  ⟨.bin .add (.tmp 9) (.con (.v (.int .i64 1))), (some 22), none, [], none⟩,
  ⟨.mov (.tmp 22), (some 9), none, [0], none⟩]
def d43r7 : List RO := [
  ⟨.mov (.con (.v (.bool true))), (some 4), none, [], none⟩]
def d43 : DC := (.seq (.region false d43r0)
  (.seq (.seq (.region false d43r1)
  (.block 0 (.loop (.seq (.region false d43r2)
  (.seq (.cond (.tmp 10) .skip
  (.exit 0))
  (.seq (.block 1 (.seq (.region false d43r3)
  (.seq (.region false d43r4)
  (.cond (.tmp 21) (.seq (.region false d43r5)
  .ret)
  .skip))))
  (.region false d43r6)))))))
  (.seq (.region false d43r7)
  .ret)))
def d43res : List DRes := [.slot 4]
theorem c43 : CodeOf Try.prog 43 23 d43 d43res := ⟨Try.f43, by kernel_rfl, by kernel_rfl, by kernel_rfl, by kernel_rfl, by kernel_rfl⟩
-- emendate/editscript.swappable
def d74r0 : List RO := [
  ⟨.box (.tmp 0), (some 2), none, [], none⟩,
  ⟨.mov (.con (.v (.bool false))), (some 4), none, [], none⟩]
def d74r1 : List RO := [
  ⟨.addOff 2 (.tmp 2), (some 5), none, [], none⟩,
  ⟨.load 1 false (.tmp 5), (some 6), none, [0], none⟩,
  ⟨.bin .gtr (.tmp 6) (.con (.v (.int .i64 0))), (some 7), none, [1], none⟩,
  ⟨.mov (.tmp 7), (some 8), none, [2], none⟩,
  ⟨.mov (.tmp 1), (some 9), (some (8, true)), [3], none⟩,
  ⟨.bin .add (.tmp 9) (.con (.v (.int .i64 1))), (some 10), (some (8, true)), [4, 3], none⟩,
  ⟨.addOff 0 (.tmp 2), (some 11), (some (8, true)), [3], none⟩,
  ⟨.load 1 false (.tmp 11), (some 12), (some (8, true)), [6, 3], none⟩,
  ⟨.len (.tmp 12), (some 13), (some (8, true)), [7, 3], none⟩,
  ⟨.bin .lss (.tmp 10) (.tmp 13), (some 14), (some (8, true)), [5, 8, 3], none⟩,
  ⟨.pick (.tmp 8) (.tmp 14) (.con (.v (.bool false))), (some 15), none, [3, 9], none⟩,
  ⟨.mov (.tmp 15), (some 16), none, [10, 3], none⟩,
  ⟨.addOff 0 (.tmp 2), (some 17), (some (16, true)), [11], none⟩,
  ⟨.load 1 false (.tmp 17), (some 18), (some (16, true)), [12, 11], none⟩,
  ⟨.mov (.tmp 1), (some 19), (some (16, true)), [11], none⟩,
  ⟨.idxAddr 3 (.tmp 18) (.tmp 19), (some 20), (some (16, true)), [13, 14, 11], none⟩,
  ⟨.addOff 0 (.tmp 20), (some 21), (some (16, true)), [15, 11], none⟩,
  ⟨.load 1 false (.tmp 21), (some 22), (some (16, true)), [16, 11], none⟩,
  ⟨.bin .geq (.tmp 22) (.con (.v (.int .i64 0))), (some 23), (some (16, true)), [17, 11], none⟩,
  ⟨.pick (.tmp 16) (.tmp 23) (.con (.v (.bool false))), (some 24), none, [11, 18], none⟩,
  ⟨.mov (.tmp 24), (some 25), none, [19, 11], none⟩,
  ⟨.addOff 0 (.tmp 2), (some 26), (some (25, true)), [20], none⟩,
  ⟨.load 1 false (.tmp 26), (some 27), (some (25, true)), [21, 20], none⟩,
  ⟨.mov (.tmp 1), (some 28), (some (25, true)), [20], none⟩,
  ⟨.bin .add (.tmp 28) (.con (.v (.int .i64 1))), (some 29), (some (25, true)), [23, 20], none⟩,
  ⟨.idxAddr 3 (.tmp 27) (.tmp 29), (some 30), (some (25, true)), [22, 24, 20], none⟩,
  ⟨.addOff 0 (.tmp 30), (some 31), (some (25, true)), [25, 20], none⟩,
  ⟨.load 1 false (.tmp 31), (some 32), (some (25, true)), [26, 20], none⟩,
  ⟨.bin .geq (.tmp 32) (.con (.v (.int .i64 0))), (some 33), (some (25, true)), [27, 20], none⟩,
  ⟨.pick (.tmp 25) (.tmp 33) (.con (.v (.bool false))), (some 34), none, [20, 28], none⟩,
  ⟨.mov (.tmp 34), (some 4), none, [29, 20, 0, 1, 2, 3, 4, 5, 6, 7, 8, 9, 10, 11, 12, 13, 14, 15, 16, 17, 18, 19, 20, 21, 22, 23, 24, 25, 26, 27, 28, 29], none⟩]
def d74 : DC := (.seq (.region false d74r0)
  (.seq (.region false d74r1)
  .ret))
def d74res : List DRes := [.slot 4]
theorem c74 : CodeOf Try.prog 74 35 d74 d74res := ⟨Try.f74, by kernel_rfl, by kernel_rfl, by kernel_rfl, by kernel_rfl, by kernel_rfl⟩
-- emendate/editscript.add
def d57r0 : List RO := [
  ⟨.mov (.con (.v (.int .i64 0))), (some 4), none, [], none⟩]
def d57r1 : List RO := [
  ⟨.mov (.tmp 0), (some 5), none, [], none⟩,
  ⟨.mov (.tmp 1), (some 6), none, [], none⟩,
  ⟨.bin .add (.tmp 5) (.tmp 6), (some 7), none, [0, 1], none⟩,
  ⟨.minmax false (.tmp 7) (.con (.v (.int .i64 1099511627776))), (some 8), none, [2], none⟩,
  ⟨.mov (.tmp 8), (some 4), none, [3, 0, 1, 2, 3], none⟩]
def d57 : DC := (.seq (.region false d57r0)
  (.seq (.region false d57r1)
  .ret))
def d57res : List DRes := [.slot 4]
theorem c57 : CodeOf Try.prog 57 9 d57 d57res := ⟨Try.f57, by kernel_rfl, by kernel_rfl, by kernel_rfl, by kernel_rfl, by kernel_rfl⟩
-- emendate/editscript.steps
def d56r0 : List RO := [
  ⟨.box (.tmp 0), (some 4), none, [], none⟩,
  ⟨.mov (.con .nil0), (some 8), none, [], none⟩]
def d56r1 : List RO := [
  ⟨.mov (.con .nil0), (some 9), none, [], none⟩]
def d56r2 : List RO := [
  ⟨.mov (.tmp 2), (some 12), none, [], none⟩,
  ⟨.addOff 0 (.tmp 4), (some 13), none, [], none⟩,
  ⟨.load 1 false (.tmp 13), (some 14), none, [1], none⟩,
  ⟨.len (.tmp 14), (some 15), none, [2], none⟩,
  ⟨.bin .lss (.tmp 12) (.tmp 15), (some 16), none, [0, 3], none⟩,
  ⟨.mov (.tmp 1), (some 17), none, [], none⟩,
  ⟨.len (.tmp 17), (some 18), none, [5], none⟩,
  ⟨.mov (.tmp 3), (some 19), none, [], none⟩,
  ⟨.bin .sub (.tmp 18) (.tmp 19), (some 20), none, [6, 7], none⟩,
  ⟨.mov (.tmp 16), (some 10), none, [4, 0, 1, 2, 3, 4], none⟩,
  ⟨.mov (.tmp 20), (some 11), none, [8, 9, 0, 1, 2, 3, 4, 5, 6, 7, 8, 9], none⟩]
def d56r3 : List RO := [
  ⟨.mov (.tmp 10), (some 21), none, [], none⟩,
  ⟨.mov (.tmp 21), (some 22), none, [0], none⟩,
  ⟨.mov (.tmp 11), (some 23), (some (22, true)), [1], none⟩,
  ⟨.bin .gtr (.tmp 23) (.con (.v (.int .i64 0))), (some 24), (some (22, true)), [2, 1], none⟩,
  ⟨.pick (.tmp 22) (.tmp 24) (.con (.v (.bool false))), (some 25), none, [1, 3], none⟩,
  ⟨.mov (.tmp 25), (some 26), none, [4, 1], none⟩,
  ⟨.addOff 0 (.tmp 4), (some 27), (some (26, true)), [5], none⟩,
  ⟨.load 1 false (.tmp 27), (some 28), (some (26, true)), [6, 5], none⟩,
  ⟨.mov (.tmp 2), (some 29), (some (26, true)), [5], none⟩,
  ⟨.idxAddr 3 (.tmp 28) (.tmp 29), (some 30), (some (26, true)), [7, 8, 5], none⟩,
  ⟨.addOff 1 (.tmp 30), (some 31), (some (26, true)), [9, 5], none⟩,
  ⟨.load 1 false (.tmp 31), (some 32), (some (26, true)), [10, 5], none⟩,
  ⟨.mov (.tmp 1), (some 33), (some (26, true)), [5], none⟩,
  ⟨.mov (.tmp 3), (some 34), (some (26, true)), [5], none⟩,
  ⟨.idxAddr 1 (.tmp 33) (.tmp 34), (some 35), (some (26, true)), [12, 13, 5], none⟩,
  ⟨.load 1 false (.tmp 35), (some 36), (some (26, true)), [14, 5], none⟩,
  ⟨.idxAddr 1 (.tmp 32) (.tmp 36), (some 37), (some (26, true)), [11, 15, 5], none⟩,
  ⟨.load 1 false (.tmp 37), (some 38), (some (26, true)), [16, 5], none⟩,
  ⟨.bin .geq (.tmp 38) (.con (.v (.int .i64 0))), (some 39), (some (26, true)), [17, 5], none⟩,
  ⟨.pick (.tmp 26) (.tmp 39) (.con (.v (.bool false))), (some 40), none, [5, 18], none⟩]
def d56r4 : List RO := [
  ⟨.mov (.tmp 9), (some 41), none, [], none⟩,
  ⟨.mov (.tmp 1), (some 42), none, [], none⟩,
  ⟨.mov (.tmp 3), (some 43), none, [], none⟩,
  ⟨.idxAddr 1 (.tmp 42) (.tmp 43), (some 44), none, [1, 2], none⟩,
  ⟨.load 1 false (.tmp 44), (some 45), none, [3], none⟩,
  ⟨.build [(.v (.int .i64 0)), (.v (.int .i64 0))] [(0, 1, (.con (.v (.int .i64 1)))), (1, 1, (.tmp 45))], (some 46), none, [4], none⟩,
  ⟨.addOff 0 (.tmp 4), (some 47), none, [], none⟩,
  ⟨.load 1 false (.tmp 47), (some 48), none, [6], none⟩,
  ⟨.mov (.tmp 2), (some 49), none, [], none⟩,
  ⟨.idxAddr 3 (.tmp 48) (.tmp 49), (some 50), none, [7, 8], none⟩,
  ⟨.addOff 1 (.tmp 50), (some 51), none, [9], none⟩,
  ⟨.load 1 false (.tmp 51), (some 52), none, [10], none⟩,
  ⟨.mov (.tmp 1), (some 53), none, [], none⟩,
  ⟨.mov (.tmp 3), (some 54), none, [], none⟩,
  ⟨.idxAddr 1 (.tmp 53) (.tmp 54), (some 55), none, [12, 13], none⟩,
  ⟨.load 1 false (.tmp 55), (some 56), none, [14], none⟩,
  ⟨.idxAddr 1 (.tmp 52) (.tmp 56), (some 57), none, [11, 15], none⟩,
  ⟨.load 1 false (.tmp 57), (some 58), none, [16], none⟩,
  ⟨.build [(.v (.int .i64 0)), (.v (.int .i64 0)), (.v (.int .i64 0)), (.v (.int .i64 0)), (.v (.int .i64 0))] [(0, 2, (.tmp 46)), (2, 1, (.tmp 58)), (3, 1, (.con (.v (.int .i64 1)))), (4, 1, (.con (.v (.int .i64 1))))], (some 59), none, [5, 17], none⟩,
  ⟨.bslice 1 5 [(.v (.int .i64 0)), (.v (.int .i64 0)), (.v (.int .i64 0)), (.v (.int .i64 0)), (.v (.int .i64 0))] [(0, 5, (.tmp 59))], (some 60), none, [18], none⟩,
  ⟨.append 92 5 40 (.tmp 41) (.tmp 60), (some 61), none, [0, 19], none⟩,
  ⟨.mov (.tmp 61), (some 9), none, [20, 20, 0, 1, 2, 3, 4, 5, 6, 7, 8, 9, 10, 11, 12, 13, 14, 15, 16, 17, 18, 19, 20], none⟩]
def d56r5 : List RO := [
  ⟨.mov (.tmp 10), (some 62), none, [], none⟩,
  ⟨.mov (.tmp 62), (some 63), none, [0], none⟩,
  ⟨.addOff 0 (.tmp 4), (some 64), (some (63, true)), [1], none⟩,
  ⟨.load 1 false (.tmp 64), (some 65), (some (63, true)), [2, 1], none⟩,
  ⟨.mov (.tmp 2), (some 66), (some (63, true)), [1], none⟩,
  ⟨.idxAddr 3 (.tmp 65) (.tmp 66), (some 67), (some (63, true)), [3, 4, 1], none⟩,
  ⟨.addOff 2 (.tmp 67), (some 68), (some (63, true)), [5, 1], none⟩,
  ⟨.load 1 false (.tmp 68), (some 69), (some (63, true)), [6, 1], none⟩,
  ⟨.bin .lss (.tmp 69) (.con (.v (.int .i64 1099511627776))), (some 70), (some (63, true)), [7, 1], none⟩,
  ⟨.pick (.tmp 63) (.tmp 70) (.con (.v (.bool false))), (some 71), none, [1, 8], none⟩]
def d56r6 : List RO := [
  ⟨.mov (.tmp 9), (some 72), none, [], none⟩,
  ⟨.build [(.v (.int .i64 0)), (.v (.int .i64 0))] [(0, 1, (.con (.v (.int .i64 2))))], (some 73), none, [], none⟩,
  ⟨.addOff 0 (.tmp 4), (some 74), none, [], none⟩,
  ⟨.load 1 false (.tmp 74), (some 75), none, [2], none⟩,
  ⟨.mov (.tmp 2), (some 76), none, [], none⟩,
  ⟨.idxAddr 3 (.tmp 75) (.tmp 76), (some 77), none, [3, 4], none⟩,
  ⟨.addOff 2 (.tmp 77), (some 78), none, [5], none⟩,
  ⟨.load 1 false (.tmp 78), (some 79), none, [6], none⟩,
  ⟨.build [(.v (.int .i64 0)), (.v (.int .i64 0)), (.v (.int .i64 0)), (.v (.int .i64 0)), (.v (.int .i64 0))] [(0, 2, (.tmp 73)), (2, 1, (.tmp 79)), (3, 1, (.con (.v (.int .i64 1)))), (4, 1, (.con (.v (.int .i64 0))))], (some 80), none, [1, 7], none⟩,
  ⟨.bslice 1 5 [(.v (.int .i64 0)), (.v (.int .i64 0)), (.v (.int .i64 0)), (.v (.int .i64 0)), (.v (.int .i64 0))] [(0, 5, (.tmp 80))], (some 81), none, [8], none⟩,
  ⟨.append 92 5 40 (.tmp 72) (.tmp 81), (some 82), none, [0, 9], none⟩,
  ⟨.mov (.tmp 82), (some 9), none, [10, 10, 0, 1, 2, 3, 4, 5, 6, 7, 8, 9, 10], none⟩]
def d56r7 : List RO := [
  ⟨.mov (.tmp 11), (some 83), none, [], none⟩,
  ⟨.bin .gtr (.tmp 83) (.con (.v (.int .i64 0))), (some 84), none, [0], none⟩]
def d56r8 : List RO := [
  ⟨.mov (.tmp 9), (some 85), none, [], none⟩,
  ⟨.mov (.tmp 1), (some 86), none, [], none⟩,
  ⟨.mov (.tmp 3), (some 87), none, [], none⟩,
  ⟨.idxAddr 1 (.tmp 86) (.tmp 87), (some 88), none, [1, 2], none⟩,
  ⟨.load 1 false (.tmp 88), (some 89), none, [3], none⟩,
  ⟨.build [(.v (.int .i64 0)), (.v (.int .i64 0))] [(0, 1, (.con (.v (.int .i64 3)))), (1, 1, (.tmp 89))], (some 90), none, [4], none⟩,
  ⟨.addOff 1 (.tmp 4), (some 91), none, [], none⟩,
  ⟨.load 1 false (.tmp 91), (some 92), none, [6], none⟩,
  ⟨.mov (.tmp 1), (some 93), none, [], none⟩,
  ⟨.mov (.tmp 3), (some 94), none, [], none⟩,
  ⟨.idxAddr 1 (.tmp 93) (.tmp 94), (some 95), none, [8, 9], none⟩,
  ⟨.load 1 false (.tmp 95), (some 96), none, [10], none⟩,
  ⟨.idxAddr 1 (.tmp 92) (.tmp 96), (some 97), none, [7, 11], none⟩,
  ⟨.load 1 false (.tmp 97), (some 98), none, [12], none⟩,
  ⟨.build [(.v (.int .i64 0)), (.v (.int .i64 0)), (.v (.int .i64 0)), (.v (.int .i64 0)), (.v (.int .i64 0))] [(0, 2, (.tmp 90)), (2, 1, (.tmp 98)), (3, 1, (.con (.v (.int .i64 0)))), (4, 1, (.con (.v (.int .i64 1))))], (some 99), none, [5, 13], none⟩,
  ⟨.bslice 1 5 [(.v (.int .i64 0)), (.v (.int .i64 0)), (.v (.int .i64 0)), (.v (.int .i64 0)), (.v (.int .i64 0))] [(0, 5, (.tmp 99))], (some 100), none, [14], none⟩,
  ⟨.append 92 5 40 (.tmp 85) (.tmp 100), (some 101), none, [0, 15], none⟩,
  ⟨.mov (.tmp 101), (some 9), none, [16, 16, 0, 1, 2, 3, 4, 5, 6, 7, 8, 9, 10, 11, 12, 13, 14, 15, 16], none⟩]
def d56r9 : List RO := [
  ⟨.mov (.tmp 11), (some 102), none, [], none⟩,
  ⟨.bin .gtr (.tmp 102) (.con (.v (.int .i64 1))), (some 103), none, [0], none⟩,
  ⟨.mov (.tmp 103), (some 104), none, [1], none⟩,
  ⟨.load 3 true (.tmp 4), (some 105), (some (104, true)), [2], none⟩,
  ⟨.mov (.tmp 2), (some 106), (some (104, true)), [2], none⟩,
  ⟨.call 74 [(.tmp 105), (.tmp 106)], (some 107), (some (104, true)), [3, 4, 2, 2], none⟩,
  ⟨.pick (.tmp 104) (.tmp 107) (.con (.v (.bool false))), (some 108), none, [2, 5], none⟩,
  ⟨.mov (.tmp 108), (some 109), none, [6, 5], none⟩,
  ⟨.addOff 0 (.tmp 4), (some 110), (some (109, true)), [7], none⟩,
  ⟨.load 1 false (.tmp 110), (some 111), (some (109, true)), [8, 7], none⟩,
  ⟨.mov (.tmp 2), (some 112), (some (109, true)), [7], none⟩,
  ⟨.bin .add (.tmp 112) (.con (.v (.int .i64 1))), (some 113), (some (109, true)), [10, 7], none⟩,
  ⟨.idxAddr 3 (.tmp 111) (.tmp 113), (some 114), (some (109, true)), [9, 11, 7], none⟩,
  ⟨.addOff 0 (.tmp 114), (some 115), (some (109, true)), [12, 7], none⟩,
  ⟨.load 1 false (.tmp 115), (some 116), (some (109, true)), [13, 7], none⟩,
  ⟨.mov (.tmp 1), (some 117), (some (109, true)), [7], none⟩,
  ⟨.mov (.tmp 3), (some 118), (some (109, true)), [7], none⟩,
  ⟨.idxAddr 1 (.tmp 117) (.tmp 118), (some 119), (some (109, true)), [15, 16, 7], none⟩,
  ⟨.load 1 false (.tmp 119), (some 120), (some (109, true)), [17, 7], none⟩,
  ⟨.bin .eql (.tmp 116) (.tmp 120), (some 121), (some (109, true)), [14, 18, 7], none⟩,
  ⟨.pick (.tmp 109) (.tmp 121) (.con (.v (.bool false))), (some 122), none, [7, 19], none⟩,
  ⟨.mov (.tmp 122), (some 123), none, [20, 7], none⟩,
  ⟨.addOff 0 (.tmp 4), (some 124), (some (123, true)), [21], none⟩,
  ⟨.load 1 false (.tmp 124), (some 125), (some (123, true)), [22, 21], none⟩,
  ⟨.mov (.tmp 2), (some 126), (some (123, true)), [21], none⟩,
  ⟨.idxAddr 3 (.tmp 125) (.tmp 126), (some 127), (some (123, true)), [23, 24, 21], none⟩,
  ⟨.addOff 0 (.tmp 127), (some 128), (some (123, true)), [25, 21], none⟩,
  ⟨.load 1 false (.tmp 128), (some 129), (some (123, true)), [26, 21], none⟩,
  ⟨.mov (.tmp 1), (some 130), (some (123, true)), [21], none⟩,
  ⟨.mov (.tmp 3), (some 131), (some (123, true)), [21], none⟩,
  ⟨.bin .add (.tmp 131) (.con (.v (.int .i64 1))), (some 132), (some (123, true)), [29, 21], none⟩,
  ⟨.idxAddr 1 (.tmp 130) (.tmp 132), (some 133), (some (123, true)), [28, 30, 21], none⟩,
  ⟨.load 1 false (.tmp 133), (some 134), (some (123, true)), [31, 21], none⟩,
  ⟨.bin .eql (.tmp 129) (.tmp 134), (some 135), (some (123, true)), [27, 32, 21], none⟩,
  ⟨.pick (.tmp 123) (.tmp 135) (.con (.v (.bool false))), (some 136), none, [21, 33], none⟩]
def d56r10 : List RO := [
  ⟨.mov (.tmp 9), (some 137), none, [], none⟩,
  ⟨.build [(.v (.int .i64 0)), (.v (.int .i64 0))] [(0, 1, (.con (.v (.int .i64 4))))], (some 138), none, [], none⟩,
  ⟨.addOff 2 (.tmp 4), (some 139), none, [], none⟩,
  ⟨.load 1 false (.tmp 139), (some 140), none, [2], none⟩,
  ⟨.build [(.v (.int .i64 0)), (.v (.int .i64 0)), (.v (.int .i64 0)), (.v (.int .i64 0)), (.v (.int .i64 0))] [(0, 2, (.tmp 138)), (2, 1, (.tmp 140)), (3, 1, (.con (.v (.int .i64 2)))), (4, 1, (.con (.v (.int .i64 2))))], (some 141), none, [1, 3], none⟩,
  ⟨.bslice 1 5 [(.v (.int .i64 0)), (.v (.int .i64 0)), (.v (.int .i64 0)), (.v (.int .i64 0)), (.v (.int .i64 0))] [(0, 5, (.tmp 141))], (some 142), none, [4], none⟩,
  ⟨.append 92 5 40 (.tmp 137) (.tmp 142), (some 143), none, [0, 5], none⟩,
  ⟨.mov (.tmp 143), (some 9), none, [6, 6, 0, 1, 2, 3, 4, 5, 6], none⟩]
def d56r11 : List RO := [
  ⟨.mov (.tmp 9), (some 144), none, [], none⟩,
  ⟨.mov (.tmp 144), (some 8), none, [0, 0], none⟩]
def d56 : DC := (.seq (.region false d56r0)
  (.seq (.region false d56r1)
  (.seq (.region false d56r2)
  (.seq (.seq (.region true d56r3)
  (.cond (.tmp 40) (.region true d56r4)
  .skip))
  (.seq (.seq (.region false d56r5)
  (.cond (.tmp 71) (.region false d56r6)
  .skip))
  (.seq (.seq (.region false d56r7)
  (.cond (.tmp 84) (.region true d56r8)
  .skip))
  (.seq (.seq (.region true d56r9)
  (.cond (.tmp 136) (.region false d56r10)
  .skip))
  (.seq (.region false d56r11)
  .ret))))))))
def d56res : List DRes := [.slot 8]
theorem c56 : CodeOf Try.prog 56 145 d56 d56res := ⟨Try.f56, by kernel_rfl, by kernel_rfl, by kernel_rfl, by kernel_rfl, by kernel_rfl⟩
-- emendate/editscript.table
def d44r0 : List RO := [
  ⟨.box (.tmp 0), (some 2), none, [], none⟩,
  ⟨.mov (.con .nil0), (some 4), none, [], none⟩]
def d44r1 : List RO := [
  ⟨.addOff 0 (.tmp 2), (some 13), none, [], none⟩,
  ⟨.load 1 false (.tmp 13), (some 14), none, [0], none⟩,
  ⟨.len (.tmp 14), (some 15), none, [1], none⟩,
  ⟨.mov (.tmp 1), (some 16), none, [], none⟩,
  ⟨.len (.tmp 16), (some 17), none, [3], none⟩,
  ⟨.mov (.tmp 15), (some 5), none, [2, 0, 1, 2], none⟩,
  ⟨.mov (.tmp 17), (some 6), none, [4, 5, 0, 1, 2, 3, 4, 5], none⟩]
def d44r2 : List RO := [
  ⟨.mov (.tmp 5), (some 18), none, [], none⟩,
  ⟨.bin .add (.tmp 18) (.con (.v (.int .i64 1))), (some 19), none, [0], none⟩,
  ⟨.mkSlice 23 1 24 [(.sl [])] (.tmp 19), (some 20), none, [1, 1], none⟩,
  ⟨.mov (.tmp 20), (some 7), none, [2, 0, 1, 2], none⟩]
def d44r2S : List RO := [
  ⟨.mov (.tmp 5), (some 18), none, [], none⟩,
  ⟨.bin .add (.tmp 18) (.con (.v (.int .i64 1))), (some 19), none, [0], none⟩,
  ⟨.mkSliceB 23 1 24 [(.sl [])] (.tmp 19), (some 20), none, [1, 1], none⟩,
  ⟨.mov (.tmp 20), (some 7), none, [2, 0, 1, 2], none⟩]
def d44r3 : List RO := [
  ⟨.mov (.tmp 5), (some 21), none, [], none⟩,
  ⟨.mov (.tmp 21), (some 8), none, [0, 0], none⟩]
def d44r4 : List RO := [
  ⟨.mov (.tmp 8), (some 22), none, [], none⟩,
  ⟨.bin .geq (.tmp 22) (.con (.v (.int .i64 0))), (some 23), none, [0], none⟩]
def d44r5 : List RO := [
  ⟨.mov (.tmp 7), (some 26), none, [], none⟩,
  ⟨.mov (.tmp 8), (some 27), none, [], none⟩,
  ⟨.mov (.tmp 6), (some 28), none, [], none⟩,
  ⟨.bin .add (.tmp 28) (.con (.v (.int .i64 1))), (some 29), none, [2], none⟩,
  ⟨.mkSlice 3 1 8 [(.int .i64 0)] (.tmp 29), (some 30), none, [3, 3], none⟩,
  ⟨.idxAddr 1 (.tmp 26) (.tmp 27), (some 31), none, [0, 1, 0, 1, 2, 3, 4], none⟩,
  ⟨.store 1 (.tmp 31) (.tmp 30), none, none, [5, 4, 0, 1, 2, 3, 4], none⟩]
def d44r6 : List RO := [
  ⟨.mov (.tmp 6), (some 32), none, [], none⟩,
  ⟨.mov (.tmp 32), (some 9), none, [0, 0], none⟩]
def d44r7 : List RO := [
  ⟨.mov (.tmp 9), (some 33), none, [], none⟩,
  ⟨.bin .geq (.tmp 33) (.con (.v (.int .i64 0))), (some 34), none, [0], none⟩]
def d44r8 : List RO := [
  ⟨.mov (.tmp 8), (some 37), none, [], none⟩,
  ⟨.mov (.tmp 5), (some 38), none, [], none⟩,
  ⟨.bin .eql (.tmp 37) (.tmp 38), (some 39), none, [0, 1], none⟩,
  ⟨.mov (.tmp 39), (some 40), none, [2], none⟩,
  ⟨.mov (.tmp 9), (some 41), (some (40, true)), [3], none⟩,
  ⟨.mov (.tmp 6), (some 42), (some (40, true)), [3], none⟩,
  ⟨.bin .eql (.tmp 41) (.tmp 42), (some 43), (some (40, true)), [4, 5, 3], none⟩,
  ⟨.pick (.tmp 40) (.tmp 43) (.con (.v (.bool false))), (some 44), none, [3, 6], none⟩]
def d44r9 : List RO := [
  ⟨.mov (.con (.v (.int .i64 1099511627776))), (some 10), none, [], none⟩]
def d44r10 : List RO := [
  ⟨.load 3 true (.tmp 2), (some 45), none, [], none⟩,
  ⟨.mov (.tmp 1), (some 46), none, [], none⟩,
  ⟨.mov (.tmp 8), (some 47), none, [], none⟩,
  ⟨.mov (.tmp 9), (some 48), none, [], none⟩,
  ⟨.call 56 [(.tmp 45), (.tmp 46), (.tmp 47), (.tmp 48)], (some 49), none, [0, 1, 2, 3], none⟩,
  ⟨.len (.tmp 49), (some 50), none, [4], none⟩,
  ⟨.mov (.con (.v (.int .i64 0))), (some 51), none, [], none⟩]
def d44r11 : List RO := [
  ⟨.bin .lss (.tmp 51) (.tmp 50), (some 52), none, [], none⟩]
def d44r12 : List RO := [
  ⟨.idxAddr 5 (.tmp 49) (.tmp 51), (some 53), none, [], none⟩,
  ⟨.load 5 true (.tmp 53), (some 54), none, [0], none⟩,
  ⟨.alloc [(.v (.int .i64 0)), (.v (.int .i64 0)), (.v (.int .i64 0)), (.v (.int .i64 0)), (.v (.int .i64 0))], (some 12), none, [], none⟩,
  ⟨.store 5 (.tmp 12) (.tmp 54), none, none, [2, 1, 0, 1, 2], none⟩]
def d44r13 : List RO := [
  ⟨.mov (.tmp 10), (some 55), none, [], none⟩,
  ⟨.addOff 2 (.tmp 12), (some 56), none, [], none⟩,
  ⟨.load 1 false (.tmp 56), (some 57), none, [1], none⟩,
  ⟨.mov (.tmp 7), (some 58), none, [], none⟩,
  ⟨.mov (.tmp 8), (some 59), none, [], none⟩,
  ⟨.addOff 3 (.tmp 12), (some 60), none, [], none⟩,
  ⟨.load 1 false (.tmp 60), (some 61), none, [5], none⟩,
  ⟨.bin .add (.tmp 59) (.tmp 61), (some 62), none, [4, 6], none⟩,
  ⟨.idxAddr 1 (.tmp 58) (.tmp 62), (some 63), none, [3, 7], none⟩,
  ⟨.load 1 false (.tmp 63), (some 64), none, [8], none⟩,
  ⟨.mov (.tmp 9), (some 65), none, [], none⟩,
  ⟨.addOff 4 (.tmp 12), (some 66), none, [], none⟩,
  ⟨.load 1 false (.tmp 66), (some 67), none, [11], none⟩,
  ⟨.bin .add (.tmp 65) (.tmp 67), (some 68), none, [10, 12], none⟩,
  ⟨.idxAddr 1 (.tmp 64) (.tmp 68), (some 69), none, [9, 13], none⟩,
  ⟨.load 1 false (.tmp 69), (some 70), none, [14], none⟩,
  ⟨.call 57 [(.tmp 57), (.tmp 70)], (some 71), none, [2, 15], none⟩,
  ⟨.minmax false (.tmp 55) (.tmp 71), (some 72), none, [0, 16], none⟩,
  ⟨.mov (.tmp 72), (some 10), none, [17, 16, 0, 1, 2, 3, 4, 5, 6, 7, 8, 9, 10, 11, 12, 13, 14, 15, 16, 17], none⟩]
def d44r14 : List RO := [
  ⟨.bin .add (.tmp 51) (.con (.v (.int .i64 1))), (some 73), none, [], none⟩,
  ⟨.mov (.tmp 73), (some 51), none, [0], none⟩]
def d44r15 : List RO := [
  ⟨.mov (.tmp 7), (some 74), none, [], none⟩,
  ⟨.mov (.tmp 8), (some 75), none, [], none⟩,
  ⟨.idxAddr 1 (.tmp 74) (.tmp 75), (some 76), none, [0, 1], none⟩,
  ⟨.load 1 false (.tmp 76), (some 77), none, [2], none⟩,
  ⟨.mov (.tmp 9), (some 78), none, [], none⟩,
  ⟨.mov (.tmp 10), (some 79), none, [], none⟩,
  ⟨.idxAddr 1 (.tmp 77) (.tmp 78), (some 80), none, [3, 4, 0, 1, 2, 3, 4, 5], none⟩,
  ⟨.store 1 (.tmp 80) (.tmp 79), none, none, [6, 5, 0, 1, 2, 3, 4, 5], none⟩]
def d44r16 : List RO := [
  ⟨.mov (.tmp 9), (some 35), none, [], none⟩,
  ⟨.bin .sub (.tmp 35) (.con (.v (.int .i64 1))), (some 36), none, [0], none⟩,
  ⟨.mov (.tmp 36), (some 9), none, [1, 0, 1], none⟩]
def d44r17 : List RO := [
  ⟨.mov (.tmp 8), (some 24), none, [], none⟩,
  ⟨.bin .sub (.tmp 24) (.con (.v (.int .i64 1))), (some 25), none, [0], none⟩,
  ⟨.mov (.tmp 25), (some 8), none, [1, 0, 1], none⟩]
def d44r18 : List RO := [
  ⟨.mov (.tmp 7), (some 81), none, [], none⟩,
  ⟨.mov (.tmp 81), (some 4), none, [0, 0], none⟩]
def d44 : DC := (.seq (.region false d44r0)
  (.seq (.region false d44r1)
  (.seq (.region false d44r2)
  (.seq (.seq (.region false d44r3)
  (.block 0 (.loop (.seq (.seq (.region false d44r4)
  (.cond (.tmp 23) .skip
  (.exit 0)))
  (.seq (.block 1 (.seq (.region false d44r5)
  (.seq (.region false d44r6)
  (.block 2 (.loop (.seq (.seq (.region false d44r7)
  (.cond (.tmp 34) .skip
  (.exit 2)))
  (.seq (.block 3 (.seq (.seq (.region false d44r8)
  (.cond (.tmp 44) (.exit 3)
  .skip))
  (.seq (.region false d44r9)
  (.seq (.seq (.region false d44r10)
  (.block 4 (.loop (.seq (.region false d44r11)
  (.seq (.cond (.tmp 52) .skip
  (.exit 4))
  (.seq (.block 5 (.seq (.region false d44r12)
  (.region true d44r13)))
  (.region false d44r14)))))))
  (.region false d44r15)))))
  (.region false d44r16))))))))
  (.region false d44r17))))))
  (.seq (.region false d44r18)
  .ret)))))
def d44res : List DRes := [.slot 4]
theorem c44 : CodeOf Try.prog 44 82 d44 d44res := ⟨Try.f44, by kernel_rfl, by kernel_rfl, by kernel_rfl, by kernel_rfl, by kernel_rfl⟩
-- emendate/editscript.Distance
def d25r0 : List RO := [
  ⟨.box (.tmp 0), (some 2), none, [], none⟩,
  ⟨.mov (.con (.v (.int .i64 0))), (some 4), none, [], none⟩]
def d25r1 : List RO := [
  ⟨.load 3 true (.tmp 2), (some 5), none, [], none⟩,
  ⟨.mov (.tmp 1), (some 6), none, [], none⟩,
  ⟨.call 43 [(.tmp 5), (.tmp 6)], (some 7), none, [0, 1], none⟩,
  ⟨.un .not (.tmp 7), (some 8), none, [2], none⟩]
def d25r2 : List RO := [
  ⟨.mov (.con (.v (.int .i64 1099511627776))), (some 4), none, [], none⟩]
def d25r3 : List RO := [
  ⟨.load 3 true (.tmp 2), (some 9), none, [], none⟩,
  ⟨.mov (.tmp 1), (some 10), none, [], none⟩,
  ⟨.call 44 [(.tmp 9), (.tmp 10)], (some 11), none, [0, 1], none⟩,
  ⟨.idxAddr 1 (.tmp 11) (.con (.v (.int .i64 0))), (some 12), none, [2], none⟩,
  ⟨.load 1 false (.tmp 12), (some 13), none, [3], none⟩,
  ⟨.idxAddr 1 (.tmp 13) (.con (.v (.int .i64 0))), (some 14), none, [4], none⟩,
  ⟨.load 1 false (.tmp 14), (some 15), none, [5], none⟩,
  ⟨.mov (.tmp 15), (some 4), none, [6, 2, 0, 1, 2, 3, 4, 5, 6], none⟩]
def d25 : DC := (.seq (.region false d25r0)
  (.seq (.seq (.region false d25r1)
  (.cond (.tmp 8) (.seq (.region false d25r2)
  .ret)
  .skip))
  (.seq (.region false d25r3)
  .ret)))
def d25res : List DRes := [.slot 4]
theorem c25 : CodeOf Try.prog 25 16 d25 d25res := ⟨Try.f25, by kernel_rfl, by kernel_rfl, by kernel_rfl, by kernel_rfl, by kernel_rfl⟩
-- emendate/emendatelaw37.LatticeDistanceIsEditDistance
def d9r0 : List RO := [
  ⟨.box (.tmp 0), (some 2), none, [], none⟩,
  ⟨.mov (.con (.v (.bool false))), (some 4), none, [], none⟩]
def d9r1 : List RO := [
  ⟨.call 10 [], (some 6), none, [], none⟩,
  ⟨.un .not (.tmp 6), (some 7), none, [0], none⟩]
def d9r2 : List RO := [
  ⟨.mov (.con (.v (.bool false))), (some 4), none, [], none⟩]
def d9r3 : List RO := [
  ⟨.load 3 true (.tmp 2), (some 8), none, [], none⟩,
  ⟨.call 11 [(.tmp 8), (.con (.v (.int .i64 6)))], (some 9), none, [0], none⟩,
  ⟨.un .not (.tmp 9), (some 10), none, [1], none⟩,
  ⟨.mov (.tmp 10), (some 11), none, [2, 1], none⟩,
  ⟨.mov (.tmp 1), (some 12), (some (11, false)), [3], none⟩,
  ⟨.len (.tmp 12), (some 13), (some (11, false)), [4, 3], none⟩,
  ⟨.bin .gtr (.tmp 13) (.con (.v (.int .i64 8))), (some 14), (some (11, false)), [5, 3], none⟩,
  ⟨.pick (.tmp 11) (.con (.v (.bool true))) (.tmp 14), (some 15), none, [3, 6], none⟩,
  ⟨.mov (.tmp 15), (some 16), none, [7, 3], none⟩,
  ⟨.mov (.tmp 1), (some 17), (some (16, false)), [8], none⟩,
  ⟨.addOff 1 (.tmp 2), (some 18), (some (16, false)), [8], none⟩,
  ⟨.load 1 false (.tmp 18), (some 19), (some (16, false)), [10, 8], none⟩,
  ⟨.len (.tmp 19), (some 20), (some (16, false)), [11, 8], none⟩,
  ⟨.call 17 [(.tmp 17), (.tmp 20)], (some 21), (some (16, false)), [9, 12, 8, 8], none⟩,
  ⟨.un .not (.tmp 21), (some 22), (some (16, false)), [13, 8], none⟩,
  ⟨.pick (.tmp 16) (.con (.v (.bool true))) (.tmp 22), (some 23), none, [8, 14], none⟩]
def d9r4 : List RO := [
  ⟨.mov (.con (.v (.bool true))), (some 4), none, [], none⟩]
def d9r5 : List RO := [
  ⟨.load 3 true (.tmp 2), (some 24), none, [], none⟩,
  ⟨.call 12 [(.tmp 24)], (some 25), none, [0], none⟩,
  ⟨.mov (.tmp 1), (some 26), none, [], none⟩,
  ⟨.call 18 [(.tmp 25), (.tmp 26)], (some 27), none, [1, 2, 1], none⟩,
  ⟨.mov (.tmp 27), (some 5), none, [3, 3, 0, 1, 2, 3], none⟩]
def d9r6 : List RO := [
  ⟨.mov (.tmp 5), (some 28), none, [], none⟩,
  ⟨.load 3 true (.tmp 2), (some 29), none, [], none⟩,
  ⟨.mov (.tmp 1), (some 30), none, [], none⟩,
  ⟨.call 24 [(.tmp 29), (.tmp 30)], (some 31), none, [1, 2], none⟩,
  ⟨.bin .eql (.tmp 28) (.tmp 31), (some 32), none, [0, 3], none⟩,
  ⟨.mov (.tmp 32), (some 33), none, [4, 3], none⟩,
  ⟨.mov (.tmp 5), (some 34), (some (33, true)), [5], none⟩,
  ⟨.load 3 true (.tmp 2), (some 35), (some (33, true)), [5], none⟩,
  ⟨.mov (.tmp 1), (some 36), (some (33, true)), [5], none⟩,
  ⟨.call 25 [(.tmp 35), (.tmp 36)], (some 37), (some (33, true)), [7, 8, 5, 5], none⟩,
  ⟨.bin .eql (.tmp 34) (.tmp 37), (some 38), (some (33, true)), [6, 9, 5], none⟩,
  ⟨.pick (.tmp 33) (.tmp 38) (.con (.v (.bool false))), (some 39), none, [5, 10], none⟩,
  ⟨.mov (.tmp 39), (some 4), none, [11, 9, 0, 1, 2, 3, 4, 5, 6, 7, 8, 9, 10, 11], none⟩]
def d9 : DC := (.seq (.region false d9r0)
  (.seq (.seq (.region false d9r1)
  (.cond (.tmp 7) (.seq (.region false d9r2)
  .ret)
  .skip))
  (.seq (.seq (.region false d9r3)
  (.cond (.tmp 23) (.seq (.region false d9r4)
  .ret)
  .skip))
  (.seq (.region false d9r5)
  (.seq (.region false d9r6)
  .ret)))))
def d9res : List DRes := [.slot 4]
theorem c9 : CodeOf Try.prog 9 40 d9 d9res := ⟨Try.f9, by kernel_rfl, by kernel_rfl, by kernel_rfl, by kernel_rfl, by kernel_rfl⟩

end Go.Proofs
