import Derived.Test.YtlimlhidndflhaaDoorJ0a
import Derived.KernelRfl
import Derived.Test.YtlimlhidndflhaaDoorMe
set_option maxRecDepth 100000

namespace Go.Proofs
open Go.DM

-- emendate/emendatelaw37.awake
def d10r0 : List RO := [
  ⟨.mov (.con (.v (.bool false))), (some 0), none, [], none⟩]
def d10r1 : List RO := [
  ⟨.bslice 2 1 [(.v (.int .i64 0)), (.v (.int .i64 0))] [(0, 1, (.con (.v (.int .i64 0)))), (1, 1, (.con (.v (.int .i64 (-1)))))], (some 7), none, [], none⟩,
  ⟨.build [(.v (.int .i64 0)), .nil0, (.v (.int .i64 0))] [(0, 1, (.con (.v (.int .i64 0)))), (1, 1, (.tmp 7)), (2, 1, (.con (.v (.int .i64 5))))], (some 8), none, [0], none⟩,
  ⟨.bslice 1 3 [(.v (.int .i64 0)), .nil0, (.v (.int .i64 0))] [(0, 3, (.tmp 8))], (some 9), none, [1], none⟩,
  ⟨.bslice 2 1 [(.v (.int .i64 0)), (.v (.int .i64 0))] [(0, 1, (.con (.v (.int .i64 3)))), (1, 1, (.con (.v (.int .i64 3))))], (some 10), none, [], none⟩,
  ⟨.build [.nil0, .nil0, (.v (.int .i64 0))] [(0, 1, (.tmp 9)), (1, 1, (.tmp 10)), (2, 1, (.con (.v (.int .i64 4))))], (some 11), none, [2, 3], none⟩,
  ⟨.alloc [.nil0, .nil0, (.v (.int .i64 0))], (some 1), none, [], none⟩,
  ⟨.store 3 (.tmp 1) (.tmp 11), none, none, [5, 4, 0, 1, 2, 3, 4, 5], none⟩]
def d10r2 : List RO := [
  ⟨.load 3 true (.tmp 1), (some 12), none, [], none⟩,
  ⟨.call 6 [(.tmp 12)], (some 13), none, [0], none⟩,
  ⟨.alloc [(.v (.int .i64 0)), .nil0, .nil0], (some 2), none, [], none⟩,
  ⟨.store 3 (.tmp 2) (.tmp 13), none, none, [2, 1, 1, 0, 1, 2], none⟩]
def d10r3 : List RO := [
  ⟨.load 3 true (.tmp 1), (some 15), none, [], none⟩,
  ⟨.load 3 true (.tmp 2), (some 16), none, [], none⟩,
  ⟨.bslice 1 1 [(.v (.int .i64 0))] [(0, 1, (.con (.v (.int .i64 9))))], (some 17), none, [], none⟩,
  ⟨.call 11 [(.tmp 15), (.tmp 16), (.tmp 17)], (some 18), none, [0, 1, 2], none⟩,
  ⟨.mov (.tmp 18), (some 14), none, [3], none⟩,
  ⟨.extract 0 (.tmp 14), (some 19), none, [4], none⟩,
  ⟨.extract 1 (.tmp 14), (some 20), none, [4], none⟩,
  ⟨.mov (.tmp 19), (some 3), none, [5, 3, 0, 1, 2, 3, 4, 5], none⟩,
  ⟨.mov (.tmp 20), (some 4), none, [6, 7, 0, 1, 2, 3, 4, 5, 6, 7], none⟩]
def d10r4 : List RO := [
  ⟨.load 3 true (.tmp 1), (some 22), none, [], none⟩,
  ⟨.load 3 true (.tmp 2), (some 23), none, [], none⟩,
  ⟨.bslice 1 1 [(.v (.int .i64 0))] [(0, 1, (.con (.v (.int .i64 3))))], (some 24), none, [], none⟩,
  ⟨.call 11 [(.tmp 22), (.tmp 23), (.tmp 24)], (some 25), none, [0, 1, 2], none⟩,
  ⟨.mov (.tmp 25), (some 21), none, [3], none⟩,
  ⟨.extract 0 (.tmp 21), (some 26), none, [4], none⟩,
  ⟨.extract 1 (.tmp 21), (some 27), none, [4], none⟩,
  ⟨.mov (.tmp 26), (some 5), none, [5, 3, 0, 1, 2, 3, 4, 5], none⟩,
  ⟨.mov (.tmp 27), (some 6), none, [6, 7, 0, 1, 2, 3, 4, 5, 6, 7], none⟩]
def d10r5 : List RO := [
  ⟨.addOff 0 (.tmp 2), (some 28), none, [], none⟩,
  ⟨.load 1 false (.tmp 28), (some 29), none, [0], none⟩,
  ⟨.bin .eql (.tmp 29) (.con (.v (.int .i64 3))), (some 30), none, [1], none⟩,
  ⟨.mov (.tmp 30), (some 31), none, [2], none⟩,
  ⟨.addOff 1 (.tmp 2), (some 32), (some (31, true)), [3], none⟩,
  ⟨.load 1 false (.tmp 32), (some 33), (some (31, true)), [4, 3], none⟩,
  ⟨.len (.tmp 33), (some 34), (some (31, true)), [5, 3], none⟩,
  ⟨.bin .eql (.tmp 34) (.con (.v (.int .i64 6))), (some 35), (some (31, true)), [6, 3], none⟩,
  ⟨.pick (.tmp 31) (.tmp 35) (.con (.v (.bool false))), (some 36), none, [3, 7], none⟩,
  ⟨.mov (.tmp 36), (some 37), none, [8, 3], none⟩,
  ⟨.addOff 1 (.tmp 2), (some 38), (some (37, true)), [9], none⟩,
  ⟨.load 1 false (.tmp 38), (some 39), (some (37, true)), [10, 9], none⟩,
  ⟨.idxAddr 5 (.tmp 39) (.con (.v (.int .i64 3))), (some 40), (some (37, true)), [11, 9], none⟩,
  ⟨.load 5 true (.tmp 40), (some 41), (some (37, true)), [12, 9], none⟩,
  ⟨.build [(.v (.int .i64 0)), (.v (.int .i64 0))] [(0, 1, (.con (.v (.int .i64 2))))], (some 42), (some (37, true)), [9], none⟩,
  ⟨.build [(.v (.int .i64 0)), (.v (.int .i64 0))] [(0, 1, (.con (.v (.int .i64 3)))), (1, 1, (.con (.v (.int .i64 1))))], (some 43), (some (37, true)), [9], none⟩,
  ⟨.bslice 2 2 [(.v (.int .i64 0)), (.v (.int .i64 0)), (.v (.int .i64 0)), (.v (.int .i64 0))] [(0, 2, (.tmp 42)), (2, 2, (.tmp 43))], (some 44), (some (37, true)), [14, 15, 9], none⟩,
  ⟨.build [(.v (.int .i64 0)), (.v (.int .i64 0)), (.v (.int .i64 0)), (.v (.int .i64 0)), .nil0] [(0, 1, (.con (.v (.int .i64 0)))), (1, 1, (.con (.v (.int .i64 2)))), (2, 1, (.con (.v (.int .i64 1)))), (3, 1, (.con (.v (.int .i64 8)))), (4, 1, (.tmp 44))], (some 45), (some (37, true)), [16, 9], none⟩,
  ⟨.call 15 [(.tmp 41), (.tmp 45)], (some 46), (some (37, true)), [13, 17, 9, 9], none⟩,
  ⟨.pick (.tmp 37) (.tmp 46) (.con (.v (.bool false))), (some 47), none, [9, 18], none⟩,
  ⟨.mov (.tmp 47), (some 48), none, [19, 18], none⟩,
  ⟨.addOff 2 (.tmp 2), (some 49), (some (48, true)), [20], none⟩,
  ⟨.load 1 false (.tmp 49), (some 50), (some (48, true)), [21, 20], none⟩,
  ⟨.bslice 3 1 [(.v (.int .i64 0)), (.v (.int .i64 0)), (.v (.int .i64 0))] [(0, 1, (.con (.v (.int .i64 5)))), (1, 1, (.con (.v (.int .i64 1099511627776)))), (2, 1, (.con (.v (.int .i64 0))))], (some 51), (some (48, true)), [20], none⟩,
  ⟨.call 14 [(.tmp 50), (.tmp 51)], (some 52), (some (48, true)), [22, 23, 20, 20], none⟩,
  ⟨.pick (.tmp 48) (.tmp 52) (.con (.v (.bool false))), (some 53), none, [20, 24], none⟩,
  ⟨.mov (.tmp 53), (some 54), none, [25, 24], none⟩,
  ⟨.load 3 true (.tmp 2), (some 55), (some (54, true)), [26], none⟩,
  ⟨.bslice 1 1 [(.v (.int .i64 0))] [(0, 1, (.con (.v (.int .i64 1))))], (some 56), (some (54, true)), [26], none⟩,
  ⟨.call 16 [(.tmp 55), (.tmp 56)], (some 57), (some (54, true)), [27, 28, 26, 26], none⟩,
  ⟨.bin .eql (.tmp 57) (.con (.v (.int .i64 8))), (some 58), (some (54, true)), [29, 26], none⟩,
  ⟨.pick (.tmp 54) (.tmp 58) (.con (.v (.bool false))), (some 59), none, [26, 30], none⟩,
  ⟨.mov (.tmp 59), (some 60), none, [31, 29], none⟩,
  ⟨.load 3 true (.tmp 2), (some 61), (some (60, true)), [32], none⟩,
  ⟨.bslice 1 1 [(.v (.int .i64 0))] [(0, 1, (.con (.v (.int .i64 0))))], (some 62), (some (60, true)), [32], none⟩,
  ⟨.call 16 [(.tmp 61), (.tmp 62)], (some 63), (some (60, true)), [33, 34, 32, 32], none⟩,
  ⟨.bin .eql (.tmp 63) (.con (.v (.int .i64 0))), (some 64), (some (60, true)), [35, 32], none⟩,
  ⟨.pick (.tmp 60) (.tmp 64) (.con (.v (.bool false))), (some 65), none, [32, 36], none⟩,
  ⟨.mov (.tmp 65), (some 66), none, [37, 35], none⟩,
  ⟨.mov (.tmp 4), (some 67), (some (66, true)), [38], none⟩,
  ⟨.bin .eql (.tmp 67) (.con (.v (.int .i64 1))), (some 68), (some (66, true)), [39, 38], none⟩,
  ⟨.pick (.tmp 66) (.tmp 68) (.con (.v (.bool false))), (some 69), none, [38, 40], none⟩,
  ⟨.mov (.tmp 69), (some 70), none, [41, 38], none⟩,
  ⟨.mov (.tmp 6), (some 71), (some (70, true)), [42], none⟩,
  ⟨.bin .eql (.tmp 71) (.con (.v (.int .i64 0))), (some 72), (some (70, true)), [43, 42], none⟩,
  ⟨.pick (.tmp 70) (.tmp 72) (.con (.v (.bool false))), (some 73), none, [42, 44], none⟩,
  ⟨.mov (.tmp 73), (some 74), none, [45, 42], none⟩,
  ⟨.mov (.tmp 5), (some 75), (some (74, true)), [46], none⟩,
  ⟨.addOff 1 (.tmp 2), (some 76), (some (74, true)), [46], none⟩,
  ⟨.load 1 false (.tmp 76), (some 77), (some (74, true)), [48, 46], none⟩,
  ⟨.idxAddr 5 (.tmp 77) (.con (.v (.int .i64 3))), (some 78), (some (74, true)), [49, 46], none⟩,
  ⟨.addOff 4 (.tmp 78), (some 79), (some (74, true)), [50, 46], none⟩,
  ⟨.load 1 false (.tmp 79), (some 80), (some (74, true)), [51, 46], none⟩,
  ⟨.call 17 [(.tmp 75), (.tmp 80)], (some 81), (some (74, true)), [47, 52, 46, 46], none⟩,
  ⟨.pick (.tmp 74) (.tmp 81) (.con (.v (.bool false))), (some 82), none, [46, 53], none⟩,
  ⟨.mov (.tmp 82), (some 83), none, [54, 53], none⟩,
  ⟨.load 3 true (.tmp 2), (some 84), (some (83, true)), [55], none⟩,
  ⟨.call 18 [(.tmp 84), (.con (.v (.int .i64 2)))], (some 85), (some (83, true)), [56, 55, 55], none⟩,
  ⟨.pick (.tmp 83) (.tmp 85) (.con (.v (.bool false))), (some 86), none, [55, 57], none⟩,
  ⟨.mov (.tmp 86), (some 87), none, [58, 57], none⟩,
  ⟨.load 3 true (.tmp 2), (some 88), (some (87, true)), [59], none⟩,
  ⟨.call 18 [(.tmp 88), (.con (.v (.int .i64 1)))], (some 89), (some (87, true)), [60, 59, 59], none⟩,
  ⟨.un .not (.tmp 89), (some 90), (some (87, true)), [61, 59], none⟩,
  ⟨.pick (.tmp 87) (.tmp 90) (.con (.v (.bool false))), (some 91), none, [59, 62], none⟩,
  ⟨.mov (.tmp 91), (some 0), none, [63, 61, 0, 1, 2, 3, 4, 5, 6, 7, 8, 9, 10, 11, 12, 13, 14, 15, 16, 17, 18, 19, 20, 21, 22, 23, 24, 25, 26, 27, 28, 29, 30, 31, 32, 33, 34, 35, 36, 37, 38, 39, 40, 41, 42, 43, 44, 45, 46, 47, 48, 49, 50, 51, 52, 53, 54, 55, 56, 57, 58, 59, 60, 61, 62, 63], none⟩]
def d10 : DC := (.seq (.region false d10r0)
  (.seq (.region false d10r1)
  (.seq (.region false d10r2)
  (.seq (.region false d10r3)
  (.seq (.region false d10r4)
  (.seq (.region false d10r5)
  .ret))))))
def d10res : List DRes := [.slot 0]
theorem c10 [Laid] : CodeOf Tryd.prog 4 92 d10 d10res := ⟨Tryd.f4, by kernel_rfl, by kernel_rfl, by kernel_rfl, by kernel_rfl, by kernel_rfl⟩
-- emendate/lattice.Valid
def d15r0 : List RO := [
  ⟨.box (.tmp 0), (some 2), none, [], none⟩,
  ⟨.mov (.con (.v (.bool false))), (some 4), none, [], none⟩]
def d15r1 : List RO := [
  ⟨.addOff 0 (.tmp 2), (some 10), none, [], none⟩,
  ⟨.load 1 false (.tmp 10), (some 11), none, [0], none⟩,
  ⟨.bin .lss (.tmp 11) (.con (.v (.int .i64 1))), (some 12), none, [1], none⟩,
  ⟨.mov (.tmp 12), (some 13), none, [2], none⟩,
  ⟨.addOff 2 (.tmp 2), (some 14), (some (13, false)), [3], none⟩,
  ⟨.load 1 false (.tmp 14), (some 15), (some (13, false)), [4, 3], none⟩,
  ⟨.len (.tmp 15), (some 16), (some (13, false)), [5, 3], none⟩,
  ⟨.addOff 0 (.tmp 2), (some 17), (some (13, false)), [3], none⟩,
  ⟨.load 1 false (.tmp 17), (some 18), (some (13, false)), [7, 3], none⟩,
  ⟨.bin .neq (.tmp 16) (.tmp 18), (some 19), (some (13, false)), [6, 8, 3], none⟩,
  ⟨.pick (.tmp 13) (.con (.v (.bool true))) (.tmp 19), (some 20), none, [3, 9], none⟩]
def d15r2 : List RO := [
  ⟨.mov (.con (.v (.bool false))), (some 4), none, [], none⟩]
def d15r3 : List RO := [
  ⟨.addOff 2 (.tmp 2), (some 21), none, [], none⟩,
  ⟨.load 1 false (.tmp 21), (some 22), none, [0], none⟩,
  ⟨.len (.tmp 22), (some 23), none, [1], none⟩,
  ⟨.mov (.con (.v (.int .i64 0))), (some 24), none, [], none⟩]
def d15r4 : List RO := [
  ⟨.bin .lss (.tmp 24) (.tmp 23), (some 25), none, [], none⟩]
def d15r5 : List RO := [
  ⟨.idxAddr 1 (.tmp 22) (.tmp 24), (some 26), none, [], none⟩,
  ⟨.load 1 false (.tmp 26), (some 27), none, [0], none⟩,
  ⟨.mov (.tmp 27), (some 6), none, [1, 0, 1], none⟩]
def d15r6 : List RO := [
  ⟨.mov (.tmp 6), (some 28), none, [], none⟩,
  ⟨.bin .lss (.tmp 28) (.con (.v (.int .i64 0))), (some 29), none, [0], none⟩,
  ⟨.mov (.tmp 29), (some 30), none, [1], none⟩,
  ⟨.mov (.tmp 6), (some 31), (some (30, false)), [2], none⟩,
  ⟨.bin .gtr (.tmp 31) (.con (.v (.int .i64 1099511627776))), (some 32), (some (30, false)), [3, 2], none⟩,
  ⟨.pick (.tmp 30) (.con (.v (.bool true))) (.tmp 32), (some 33), none, [2, 4], none⟩]
def d15r7 : List RO := [
  ⟨.mov (.con (.v (.bool false))), (some 4), none, [], none⟩]
def d15r8 : List RO := [
  ⟨.bin .add (.tmp 24) (.con (.v (.int .i64 1))), (some 34), none, [], none⟩,
  ⟨.mov (.tmp 34), (some 24), none, [0], none⟩]
def d15r9 : List RO := [
  ⟨.addOff 1 (.tmp 2), (some 35), none, [], none⟩,
  ⟨.load 1 false (.tmp 35), (some 36), none, [0], none⟩,
  ⟨.len (.tmp 36), (some 37), none, [1], none⟩,
  ⟨.mov (.con (.v (.int .i64 0))), (some 38), none, [], none⟩]
def d15r10 : List RO := [
  ⟨.bin .lss (.tmp 38) (.tmp 37), (some 39), none, [], none⟩]
def d15r11 : List RO := [
  ⟨.mov (.tmp 38), (some 40), none, [], none⟩,
  ⟨.idxAddr 5 (.tmp 36) (.tmp 38), (some 41), none, [], none⟩,
  ⟨.load 5 true (.tmp 41), (some 42), none, [1], none⟩,
  ⟨.alloc [(.v (.int .i64 0)), (.v (.int .i64 0)), (.v (.int .i64 0)), (.v (.int .i64 0)), .nil0], (some 8), none, [], none⟩,
  ⟨.mov (.tmp 40), (some 7), none, [0, 0, 1, 2, 3], none⟩,
  ⟨.store 5 (.tmp 8) (.tmp 42), none, none, [3, 2, 4, 0, 1, 2, 3, 4], none⟩]
def d15r12 : List RO := [
  ⟨.addOff 0 (.tmp 8), (some 43), none, [], none⟩,
  ⟨.load 1 false (.tmp 43), (some 44), none, [0], none⟩,
  ⟨.bin .lss (.tmp 44) (.con (.v (.int .i64 0))), (some 45), none, [1], none⟩,
  ⟨.mov (.tmp 45), (some 46), none, [2], none⟩,
  ⟨.addOff 0 (.tmp 8), (some 47), (some (46, false)), [3], none⟩,
  ⟨.load 1 false (.tmp 47), (some 48), (some (46, false)), [4, 3], none⟩,
  ⟨.addOff 1 (.tmp 8), (some 49), (some (46, false)), [3], none⟩,
  ⟨.load 1 false (.tmp 49), (some 50), (some (46, false)), [6, 3], none⟩,
  ⟨.bin .gtr (.tmp 48) (.tmp 50), (some 51), (some (46, false)), [5, 7, 3], none⟩,
  ⟨.pick (.tmp 46) (.con (.v (.bool true))) (.tmp 51), (some 52), none, [3, 8], none⟩,
  ⟨.mov (.tmp 52), (some 53), none, [9, 3], none⟩,
  ⟨.addOff 1 (.tmp 8), (some 54), (some (53, false)), [10], none⟩,
  ⟨.load 1 false (.tmp 54), (some 55), (some (53, false)), [11, 10], none⟩,
  ⟨.addOff 0 (.tmp 2), (some 56), (some (53, false)), [10], none⟩,
  ⟨.load 1 false (.tmp 56), (some 57), (some (53, false)), [13, 10], none⟩,
  ⟨.bin .geq (.tmp 55) (.tmp 57), (some 58), (some (53, false)), [12, 14, 10], none⟩,
  ⟨.pick (.tmp 53) (.con (.v (.bool true))) (.tmp 58), (some 59), none, [10, 15], none⟩,
  ⟨.mov (.tmp 59), (some 60), none, [16, 10], none⟩,
  ⟨.addOff 2 (.tmp 8), (some 61), (some (60, false)), [17], none⟩,
  ⟨.load 1 false (.tmp 61), (some 62), (some (60, false)), [18, 17], none⟩,
  ⟨.bin .lss (.tmp 62) (.con (.v (.int .i64 0))), (some 63), (some (60, false)), [19, 17], none⟩,
  ⟨.pick (.tmp 60) (.con (.v (.bool true))) (.tmp 63), (some 64), none, [17, 20], none⟩,
  ⟨.mov (.tmp 64), (some 65), none, [21, 17], none⟩,
  ⟨.addOff 2 (.tmp 8), (some 66), (some (65, false)), [22], none⟩,
  ⟨.load 1 false (.tmp 66), (some 67), (some (65, false)), [23, 22], none⟩,
  ⟨.mov (.tmp 1), (some 68), (some (65, false)), [22], none⟩,
  ⟨.bin .geq (.tmp 67) (.tmp 68), (some 69), (some (65, false)), [24, 25, 22], none⟩,
  ⟨.pick (.tmp 65) (.con (.v (.bool true))) (.tmp 69), (some 70), none, [22, 26], none⟩,
  ⟨.mov (.tmp 70), (some 71), none, [27, 22], none⟩,
  ⟨.addOff 3 (.tmp 8), (some 72), (some (71, false)), [28], none⟩,
  ⟨.load 1 false (.tmp 72), (some 73), (some (71, false)), [29, 28], none⟩,
  ⟨.bin .lss (.tmp 73) (.con (.v (.int .i64 0))), (some 74), (some (71, false)), [30, 28], none⟩,
  ⟨.pick (.tmp 71) (.con (.v (.bool true))) (.tmp 74), (some 75), none, [28, 31], none⟩,
  ⟨.mov (.tmp 75), (some 76), none, [32, 28], none⟩,
  ⟨.addOff 3 (.tmp 8), (some 77), (some (76, false)), [33], none⟩,
  ⟨.load 1 false (.tmp 77), (some 78), (some (76, false)), [34, 33], none⟩,
  ⟨.bin .geq (.tmp 78) (.con (.v (.int .i64 1099511627776))), (some 79), (some (76, false)), [35, 33], none⟩,
  ⟨.pick (.tmp 76) (.con (.v (.bool true))) (.tmp 79), (some 80), none, [33, 36], none⟩,
  ⟨.mov (.tmp 80), (some 81), none, [37, 33], none⟩,
  ⟨.addOff 0 (.tmp 8), (some 82), (some (81, false)), [38], none⟩,
  ⟨.load 1 false (.tmp 82), (some 83), (some (81, false)), [39, 38], none⟩,
  ⟨.addOff 1 (.tmp 8), (some 84), (some (81, false)), [38], none⟩,
  ⟨.load 1 false (.tmp 84), (some 85), (some (81, false)), [41, 38], none⟩,
  ⟨.bin .eql (.tmp 83) (.tmp 85), (some 86), (some (81, false)), [40, 42, 38], none⟩,
  ⟨.mov (.tmp 86), (some 87), (some (81, false)), [43, 38, 38], none⟩,
  ⟨.addOff 3 (.tmp 8), (some 88), (some (87, true)), [44], none⟩,
  ⟨.load 1 false (.tmp 88), (some 89), (some (87, true)), [45, 44], none⟩,
  ⟨.bin .eql (.tmp 89) (.con (.v (.int .i64 0))), (some 90), (some (87, true)), [46, 44], none⟩,
  ⟨.pick (.tmp 87) (.tmp 90) (.con (.v (.bool false))), (some 91), (some (81, false)), [44, 47, 38], none⟩,
  ⟨.pick (.tmp 81) (.con (.v (.bool true))) (.tmp 91), (some 92), none, [38, 48], none⟩]
def d15r13 : List RO := [
  ⟨.mov (.con (.v (.bool false))), (some 4), none, [], none⟩]
def d15r14 : List RO := [
  ⟨.mov (.tmp 7), (some 93), none, [], none⟩,
  ⟨.bin .gtr (.tmp 93) (.con (.v (.int .i64 0))), (some 94), none, [0], none⟩]
def d15r15 : List RO := [
  ⟨.addOff 1 (.tmp 2), (some 95), none, [], none⟩,
  ⟨.load 1 false (.tmp 95), (some 96), none, [0], none⟩,
  ⟨.mov (.tmp 7), (some 97), none, [], none⟩,
  ⟨.bin .sub (.tmp 97) (.con (.v (.int .i64 1))), (some 98), none, [2], none⟩,
  ⟨.idxAddr 5 (.tmp 96) (.tmp 98), (some 99), none, [1, 3], none⟩,
  ⟨.load 5 true (.tmp 99), (some 100), none, [4], none⟩,
  ⟨.alloc [(.v (.int .i64 0)), (.v (.int .i64 0)), (.v (.int .i64 0)), (.v (.int .i64 0)), .nil0], (some 9), none, [], none⟩,
  ⟨.store 5 (.tmp 9) (.tmp 100), none, none, [6, 5, 0, 1, 2, 3, 4, 5, 6], none⟩]
def d15r16 : List RO := [
  ⟨.addOff 0 (.tmp 9), (some 101), none, [], none⟩,
  ⟨.load 1 false (.tmp 101), (some 102), none, [0], none⟩,
  ⟨.addOff 1 (.tmp 9), (some 103), none, [], none⟩,
  ⟨.load 1 false (.tmp 103), (some 104), none, [2], none⟩,
  ⟨.addOff 2 (.tmp 9), (some 105), none, [], none⟩,
  ⟨.load 1 false (.tmp 105), (some 106), none, [4], none⟩,
  ⟨.build [(.v (.int .i64 0)), (.v (.int .i64 0)), (.v (.int .i64 0))] [(0, 1, (.tmp 102)), (1, 1, (.tmp 104)), (2, 1, (.tmp 106))], (some 107), none, [1, 3, 5], none⟩,
  ⟨.addOff 0 (.tmp 8), (some 108), none, [], none⟩,
  ⟨.load 1 false (.tmp 108), (some 109), none, [7], none⟩,
  ⟨.addOff 1 (.tmp 8), (some 110), none, [], none⟩,
  ⟨.load 1 false (.tmp 110), (some 111), none, [9], none⟩,
  ⟨.addOff 2 (.tmp 8), (some 112), none, [], none⟩,
  ⟨.load 1 false (.tmp 112), (some 113), none, [11], none⟩,
  ⟨.build [(.v (.int .i64 0)), (.v (.int .i64 0)), (.v (.int .i64 0))] [(0, 1, (.tmp 109)), (1, 1, (.tmp 111)), (2, 1, (.tmp 113))], (some 114), none, [8, 10, 12], none⟩,
  ⟨.call 25 [(.tmp 107), (.tmp 114)], (some 115), none, [6, 13], none⟩,
  ⟨.bin .geq (.tmp 115) (.con (.v (.int .i64 0))), (some 116), none, [14], none⟩]
def d15r17 : List RO := [
  ⟨.mov (.con (.v (.bool false))), (some 4), none, [], none⟩]
def d15r18 : List RO := [
  ⟨.bin .add (.tmp 38) (.con (.v (.int .i64 1))), (some 117), none, [], none⟩,
  ⟨.mov (.tmp 117), (some 38), none, [0], none⟩]
def d15r19 : List RO := [
  ⟨.mov (.con (.v (.bool true))), (some 4), none, [], none⟩]
def d15 : DC := (.seq (.region false d15r0)
  (.seq (.seq (.region false d15r1)
  (.cond (.tmp 20) (.seq (.region false d15r2)
  .ret)
  .skip))
  (.seq (.seq (.region false d15r3)
  (.block 0 (.loop (.seq (.region false d15r4)
  (.seq (.cond (.tmp 25) .skip
  (.exit 0))
  (.seq (.block 1 (.seq (.region false d15r5)
  (.seq (.region false d15r6)
  (.cond (.tmp 33) (.seq (.region false d15r7)
  .ret)
  .skip))))
  (.region false d15r8)))))))
  (.seq (.seq (.region false d15r9)
  (.block 2 (.loop (.seq (.region false d15r10)
  (.seq (.cond (.tmp 39) .skip
  (.exit 2))
  (.seq (.block 3 (.seq (.region false d15r11)
  (.seq (.seq (.region false d15r12)
  (.cond (.tmp 92) (.seq (.region false d15r13)
  .ret)
  .skip))
  (.seq (.region false d15r14)
  (.cond (.tmp 94) (.seq (.region false d15r15)
  (.seq (.region false d15r16)
  (.cond (.tmp 116) (.seq (.region false d15r17)
  .ret)
  .skip)))
  .skip)))))
  (.region false d15r18)))))))
  (.seq (.region false d15r19)
  .ret)))))
def d15res : List DRes := [.slot 4]
theorem c15 [Laid] : CodeOf Tryd.prog 18 118 d15 d15res := ⟨Tryd.f18, by kernel_rfl, by kernel_rfl, by kernel_rfl, by kernel_rfl, by kernel_rfl⟩
-- emendate/lattice.Distance
def d18r0 : List RO := [
  ⟨.box (.tmp 0), (some 2), none, [], none⟩,
  ⟨.mov (.con (.v (.int .i64 0))), (some 4), none, [], none⟩]
def d18r1 : List RO := [
  ⟨.bslice 1 1 [(.v (.int .i64 0))] [(0, 1, (.con (.v (.int .i64 1099511627776))))], (some 14), none, [], none⟩,
  ⟨.addOff 0 (.tmp 2), (some 15), none, [], none⟩,
  ⟨.load 1 false (.tmp 15), (some 16), none, [1], none⟩,
  ⟨.call 21 [(.tmp 14), (.tmp 16)], (some 17), none, [0, 2], none⟩,
  ⟨.mov (.tmp 17), (some 5), none, [3, 3, 0, 1, 2, 3], none⟩]
def d18r1S : List RO := [
  ⟨.bslice 1 1 [(.v (.int .i64 0))] [(0, 1, (.con (.v (.int .i64 1099511627776))))], (some 14), none, [], none⟩,
  ⟨.addOff 0 (.tmp 2), (some 15), none, [], none⟩,
  ⟨.load 1 false (.tmp 15), (some 16), none, [1], none⟩,
  ⟨.callF 21 [(.tmp 14), (.tmp 16)], (some 17), none, [0, 2], none⟩,
  ⟨.mov (.tmp 17), (some 5), none, [3, 3, 0, 1, 2, 3], none⟩]
def d18r2 : List RO := [
  ⟨.mov (.tmp 5), (some 18), none, [], none⟩,
  ⟨.idxAddr 1 (.tmp 18) (.con (.v (.int .i64 0))), (some 19), none, [0, 0], none⟩,
  ⟨.store 1 (.tmp 19) (.con (.v (.int .i64 0))), none, none, [1, 0], none⟩]
def d18r3 : List RO := [
  ⟨.mov (.tmp 1), (some 20), none, [], none⟩,
  ⟨.len (.tmp 20), (some 21), none, [0], none⟩,
  ⟨.mov (.con (.v (.int .i64 0))), (some 22), none, [], none⟩]
def d18r4 : List RO := [
  ⟨.bin .lss (.tmp 22) (.tmp 21), (some 23), none, [], none⟩]
def d18r5 : List RO := [
  ⟨.idxAddr 1 (.tmp 20) (.tmp 22), (some 24), none, [], none⟩,
  ⟨.load 1 false (.tmp 24), (some 25), none, [0], none⟩,
  ⟨.mov (.tmp 25), (some 7), none, [1, 0, 1], none⟩]
def d18r6 : List RO := [
  ⟨.bslice 1 1 [(.v (.int .i64 0))] [(0, 1, (.con (.v (.int .i64 1099511627776))))], (some 26), none, [], none⟩,
  ⟨.addOff 0 (.tmp 2), (some 27), none, [], none⟩,
  ⟨.load 1 false (.tmp 27), (some 28), none, [1], none⟩,
  ⟨.call 21 [(.tmp 26), (.tmp 28)], (some 29), none, [0, 2], none⟩,
  ⟨.mov (.tmp 29), (some 8), none, [3, 3, 0, 1, 2, 3], none⟩]
def d18r6S : List RO := [
  ⟨.bslice 1 1 [(.v (.int .i64 0))] [(0, 1, (.con (.v (.int .i64 1099511627776))))], (some 26), none, [], none⟩,
  ⟨.addOff 0 (.tmp 2), (some 27), none, [], none⟩,
  ⟨.load 1 false (.tmp 27), (some 28), none, [1], none⟩,
  ⟨.callF 21 [(.tmp 26), (.tmp 28)], (some 29), none, [0, 2], none⟩,
  ⟨.mov (.tmp 29), (some 8), none, [3, 3, 0, 1, 2, 3], none⟩]
def d18r7 : List RO := [
  ⟨.addOff 1 (.tmp 2), (some 30), none, [], none⟩,
  ⟨.load 1 false (.tmp 30), (some 31), none, [0], none⟩,
  ⟨.len (.tmp 31), (some 32), none, [1], none⟩,
  ⟨.mov (.con (.v (.int .i64 0))), (some 33), none, [], none⟩]
def d18r8 : List RO := [
  ⟨.bin .lss (.tmp 33) (.tmp 32), (some 34), none, [], none⟩]
def d18r9 : List RO := [
  ⟨.idxAddr 5 (.tmp 31) (.tmp 33), (some 35), none, [], none⟩,
  ⟨.load 5 true (.tmp 35), (some 36), none, [0], none⟩,
  ⟨.alloc [(.v (.int .i64 0)), (.v (.int .i64 0)), (.v (.int .i64 0)), (.v (.int .i64 0)), .nil0], (some 10), none, [], none⟩,
  ⟨.store 5 (.tmp 10) (.tmp 36), none, none, [2, 1, 0, 1, 2], none⟩]
def d18r10 : List RO := [
  ⟨.addOff 2 (.tmp 10), (some 37), none, [], none⟩,
  ⟨.load 1 false (.tmp 37), (some 38), none, [0], none⟩,
  ⟨.mov (.tmp 7), (some 39), none, [], none⟩,
  ⟨.bin .eql (.tmp 38) (.tmp 39), (some 40), none, [1, 2], none⟩]
def d18r11 : List RO := [
  ⟨.mov (.tmp 8), (some 41), none, [], none⟩,
  ⟨.addOff 1 (.tmp 10), (some 42), none, [], none⟩,
  ⟨.load 1 false (.tmp 42), (some 43), none, [1], none⟩,
  ⟨.mov (.tmp 8), (some 44), none, [], none⟩,
  ⟨.addOff 1 (.tmp 10), (some 45), none, [], none⟩,
  ⟨.load 1 false (.tmp 45), (some 46), none, [4], none⟩,
  ⟨.idxAddr 1 (.tmp 44) (.tmp 46), (some 47), none, [3, 5], none⟩,
  ⟨.load 1 false (.tmp 47), (some 48), none, [6], none⟩,
  ⟨.mov (.tmp 5), (some 49), none, [], none⟩,
  ⟨.addOff 0 (.tmp 10), (some 50), none, [], none⟩,
  ⟨.load 1 false (.tmp 50), (some 51), none, [9], none⟩,
  ⟨.idxAddr 1 (.tmp 49) (.tmp 51), (some 52), none, [8, 10], none⟩,
  ⟨.load 1 false (.tmp 52), (some 53), none, [11], none⟩,
  ⟨.addOff 3 (.tmp 10), (some 54), none, [], none⟩,
  ⟨.load 1 false (.tmp 54), (some 55), none, [13], none⟩,
  ⟨.bin .add (.tmp 53) (.tmp 55), (some 56), none, [12, 14], none⟩,
  ⟨.minmax false (.tmp 48) (.tmp 56), (some 57), none, [7, 15], none⟩,
  ⟨.idxAddr 1 (.tmp 41) (.tmp 43), (some 58), none, [0, 2, 0, 1, 2, 3, 4, 5, 6, 7, 8, 9, 10, 11, 12, 13, 14, 15, 16], none⟩,
  ⟨.store 1 (.tmp 58) (.tmp 57), none, none, [17, 16, 0, 1, 2, 3, 4, 5, 6, 7, 8, 9, 10, 11, 12, 13, 14, 15, 16], none⟩]
def d18r12 : List RO := [
  ⟨.bin .add (.tmp 33) (.con (.v (.int .i64 1))), (some 59), none, [], none⟩,
  ⟨.mov (.tmp 59), (some 33), none, [0], none⟩]
def d18r13 : List RO := [
  ⟨.mov (.tmp 8), (some 60), none, [], none⟩,
  ⟨.mov (.tmp 60), (some 5), none, [0, 0], none⟩]
def d18r14 : List RO := [
  ⟨.bin .add (.tmp 22) (.con (.v (.int .i64 1))), (some 61), none, [], none⟩,
  ⟨.mov (.tmp 61), (some 22), none, [0], none⟩]
def d18r15 : List RO := [
  ⟨.mov (.con (.v (.int .i64 1099511627776))), (some 11), none, [], none⟩]
def d18r16 : List RO := [
  ⟨.mov (.tmp 5), (some 62), none, [], none⟩,
  ⟨.len (.tmp 62), (some 63), none, [0], none⟩,
  ⟨.mov (.con (.v (.int .i64 0))), (some 64), none, [], none⟩]
def d18r17 : List RO := [
  ⟨.bin .lss (.tmp 64) (.tmp 63), (some 65), none, [], none⟩]
def d18r18 : List RO := [
  ⟨.mov (.tmp 64), (some 66), none, [], none⟩,
  ⟨.idxAddr 1 (.tmp 62) (.tmp 64), (some 67), none, [], none⟩,
  ⟨.load 1 false (.tmp 67), (some 68), none, [1], none⟩,
  ⟨.mov (.tmp 66), (some 12), none, [0, 0, 1, 2], none⟩,
  ⟨.mov (.tmp 68), (some 13), none, [2, 3, 0, 1, 2, 3], none⟩]
def d18r19 : List RO := [
  ⟨.mov (.tmp 11), (some 69), none, [], none⟩,
  ⟨.mov (.tmp 13), (some 70), none, [], none⟩,
  ⟨.addOff 2 (.tmp 2), (some 71), none, [], none⟩,
  ⟨.load 1 false (.tmp 71), (some 72), none, [2], none⟩,
  ⟨.mov (.tmp 12), (some 73), none, [], none⟩,
  ⟨.idxAddr 1 (.tmp 72) (.tmp 73), (some 74), none, [3, 4], none⟩,
  ⟨.load 1 false (.tmp 74), (some 75), none, [5], none⟩,
  ⟨.bin .add (.tmp 70) (.tmp 75), (some 76), none, [1, 6], none⟩,
  ⟨.minmax false (.tmp 69) (.tmp 76), (some 77), none, [0, 7], none⟩,
  ⟨.mov (.tmp 77), (some 11), none, [8, 0, 1, 2, 3, 4, 5, 6, 7, 8], none⟩]
def d18r20 : List RO := [
  ⟨.bin .add (.tmp 64) (.con (.v (.int .i64 1))), (some 78), none, [], none⟩,
  ⟨.mov (.tmp 78), (some 64), none, [0], none⟩]
def d18r21 : List RO := [
  ⟨.mov (.tmp 11), (some 79), none, [], none⟩,
  ⟨.mov (.tmp 79), (some 4), none, [0, 0], none⟩]
def d18 : DC := (.seq (.region false d18r0)
  (.seq (.region false d18r1)
  (.seq (.region false d18r2)
  (.seq (.seq (.region false d18r3)
  (.block 0 (.loop (.seq (.region false d18r4)
  (.seq (.cond (.tmp 23) .skip
  (.exit 0))
  (.seq (.block 1 (.seq (.region false d18r5)
  (.seq (.region false d18r6)
  (.seq (.seq (.region false d18r7)
  (.block 2 (.loop (.seq (.region false d18r8)
  (.seq (.cond (.tmp 34) .skip
  (.exit 2))
  (.seq (.block 3 (.seq (.region false d18r9)
  (.seq (.region false d18r10)
  (.cond (.tmp 40) (.region true d18r11)
  .skip))))
  (.region false d18r12)))))))
  (.region false d18r13)))))
  (.region false d18r14)))))))
  (.seq (.region false d18r15)
  (.seq (.seq (.region false d18r16)
  (.block 4 (.loop (.seq (.region false d18r17)
  (.seq (.cond (.tmp 65) .skip
  (.exit 4))
  (.seq (.block 5 (.seq (.region false d18r18)
  (.region false d18r19)))
  (.region false d18r20)))))))
  (.seq (.region false d18r21)
  .ret)))))))
def d18res : List DRes := [.slot 4]
theorem c18 [Laid] : CodeOf Tryd.prog 16 80 d18 d18res := ⟨Tryd.f16, by kernel_rfl, by kernel_rfl, by kernel_rfl, by kernel_rfl, by kernel_rfl⟩
-- emendate/lattice.Script
def d20r0 : List RO := [
  ⟨.box (.tmp 0), (some 3), none, [], none⟩,
  ⟨.box (.tmp 1), (some 4), none, [], none⟩,
  ⟨.mov (.con .nil0), (some 6), none, [], none⟩,
  ⟨.mov (.con (.v (.int .i64 0))), (some 7), none, [2], none⟩]
def d20r1 : List RO := [
  ⟨.mov (.con (.v (.int .i64 0))), (some 8), none, [], none⟩]
def d20r2 : List RO := [
  ⟨.mov (.con .nil0), (some 9), none, [], none⟩]
def d20r3 : List RO := [
  ⟨.mov (.tmp 2), (some 12), none, [], none⟩,
  ⟨.len (.tmp 12), (some 13), none, [0], none⟩,
  ⟨.mov (.con (.v (.int .i64 0))), (some 14), none, [], none⟩]
def d20r4 : List RO := [
  ⟨.bin .lss (.tmp 14) (.tmp 13), (some 15), none, [], none⟩]
def d20r5 : List RO := [
  ⟨.idxAddr 1 (.tmp 12) (.tmp 14), (some 16), none, [], none⟩,
  ⟨.load 1 false (.tmp 16), (some 17), none, [0], none⟩,
  ⟨.mov (.tmp 17), (some 11), none, [1, 0, 1], none⟩]
def d20r6 : List RO := [
  ⟨.mov (.tmp 11), (some 18), none, [], none⟩,
  ⟨.bin .lss (.tmp 18) (.con (.v (.int .i64 0))), (some 19), none, [0], none⟩,
  ⟨.mov (.tmp 19), (some 20), none, [1], none⟩,
  ⟨.mov (.tmp 11), (some 21), (some (20, false)), [2], none⟩,
  ⟨.addOff 1 (.tmp 4), (some 22), (some (20, false)), [2], none⟩,
  ⟨.load 1 false (.tmp 22), (some 23), (some (20, false)), [4, 2], none⟩,
  ⟨.len (.tmp 23), (some 24), (some (20, false)), [5, 2], none⟩,
  ⟨.bin .geq (.tmp 21) (.tmp 24), (some 25), (some (20, false)), [3, 6, 2], none⟩,
  ⟨.pick (.tmp 20) (.con (.v (.bool true))) (.tmp 25), (some 26), none, [2, 7], none⟩,
  ⟨.mov (.tmp 26), (some 27), none, [8, 2], none⟩,
  ⟨.addOff 1 (.tmp 4), (some 28), (some (27, false)), [9], none⟩,
  ⟨.load 1 false (.tmp 28), (some 29), (some (27, false)), [10, 9], none⟩,
  ⟨.mov (.tmp 11), (some 30), (some (27, false)), [9], none⟩,
  ⟨.idxAddr 5 (.tmp 29) (.tmp 30), (some 31), (some (27, false)), [11, 12, 9], none⟩,
  ⟨.addOff 0 (.tmp 31), (some 32), (some (27, false)), [13, 9], none⟩,
  ⟨.load 1 false (.tmp 32), (some 33), (some (27, false)), [14, 9], none⟩,
  ⟨.mov (.tmp 8), (some 34), (some (27, false)), [9], none⟩,
  ⟨.bin .neq (.tmp 33) (.tmp 34), (some 35), (some (27, false)), [15, 16, 9], none⟩,
  ⟨.pick (.tmp 27) (.con (.v (.bool true))) (.tmp 35), (some 36), none, [9, 17], none⟩]
def d20r7 : List RO := [
  ⟨.mov (.con .nil0), (some 6), none, [], none⟩,
  ⟨.mov (.con (.v (.int .i64 1))), (some 7), none, [0, 0], none⟩]
def d20r8 : List RO := [
  ⟨.addOff 1 (.tmp 4), (some 37), none, [], none⟩,
  ⟨.load 1 false (.tmp 37), (some 38), none, [0], none⟩,
  ⟨.mov (.tmp 11), (some 39), none, [], none⟩,
  ⟨.idxAddr 5 (.tmp 38) (.tmp 39), (some 40), none, [1, 2], none⟩,
  ⟨.addOff 1 (.tmp 40), (some 41), none, [3], none⟩,
  ⟨.load 1 false (.tmp 41), (some 42), none, [4], none⟩,
  ⟨.mov (.tmp 42), (some 8), none, [5, 0, 1, 2, 3, 4, 5], none⟩]
def d20r9 : List RO := [
  ⟨.mov (.tmp 9), (some 43), none, [], none⟩,
  ⟨.addOff 1 (.tmp 4), (some 44), none, [], none⟩,
  ⟨.load 1 false (.tmp 44), (some 45), none, [1], none⟩,
  ⟨.mov (.tmp 11), (some 46), none, [], none⟩,
  ⟨.idxAddr 5 (.tmp 45) (.tmp 46), (some 47), none, [2, 3], none⟩,
  ⟨.addOff 4 (.tmp 47), (some 48), none, [4], none⟩,
  ⟨.load 1 false (.tmp 48), (some 49), none, [5], none⟩,
  ⟨.append 53 2 16 (.tmp 43) (.tmp 49), (some 50), none, [0, 6], none⟩,
  ⟨.mov (.tmp 50), (some 9), none, [7, 7, 0, 1, 2, 3, 4, 5, 6, 7], none⟩]
def d20r10 : List RO := [
  ⟨.bin .add (.tmp 14) (.con (.v (.int .i64 1))), (some 51), none, [], none⟩,
  ⟨.mov (.tmp 51), (some 14), none, [0], none⟩]
def d20r11 : List RO := [
  ⟨.addOff 2 (.tmp 4), (some 52), none, [], none⟩,
  ⟨.load 1 false (.tmp 52), (some 53), none, [0], none⟩,
  ⟨.mov (.tmp 8), (some 54), none, [], none⟩,
  ⟨.idxAddr 1 (.tmp 53) (.tmp 54), (some 55), none, [1, 2], none⟩,
  ⟨.load 1 false (.tmp 55), (some 56), none, [3], none⟩,
  ⟨.bin .geq (.tmp 56) (.con (.v (.int .i64 1099511627776))), (some 57), none, [4], none⟩]
def d20r12 : List RO := [
  ⟨.mov (.con .nil0), (some 6), none, [], none⟩,
  ⟨.mov (.con (.v (.int .i64 1))), (some 7), none, [0, 0], none⟩]
def d20r13 : List RO := [
  ⟨.addOff 0 (.tmp 3), (some 58), none, [], none⟩,
  ⟨.load 1 false (.tmp 58), (some 59), none, [0], none⟩,
  ⟨.len (.tmp 59), (some 60), none, [1], none⟩,
  ⟨.mov (.tmp 8), (some 61), none, [], none⟩,
  ⟨.bin .quo (.tmp 61) (.con (.v (.int .i64 2))), (some 62), none, [3], none⟩,
  ⟨.bin .sub (.tmp 60) (.tmp 62), (some 63), none, [2, 4], none⟩,
  ⟨.mov (.con (.v (.int .i64 0))), (some 64), none, [], none⟩]
def d20r14 : List RO := [
  ⟨.bin .lss (.tmp 64) (.tmp 63), (some 65), none, [], none⟩]
def d20r15 : List RO := [
  ⟨.mov (.tmp 9), (some 66), none, [], none⟩,
  ⟨.build [(.v (.int .i64 0)), (.v (.int .i64 0))] [(0, 1, (.con (.v (.int .i64 2))))], (some 67), none, [], none⟩,
  ⟨.bslice 1 2 [(.v (.int .i64 0)), (.v (.int .i64 0))] [(0, 2, (.tmp 67))], (some 68), none, [1], none⟩,
  ⟨.append 53 2 16 (.tmp 66) (.tmp 68), (some 69), none, [0, 2], none⟩,
  ⟨.mov (.tmp 69), (some 9), none, [3, 3, 0, 1, 2, 3], none⟩]
def d20r16 : List RO := [
  ⟨.bin .add (.tmp 64) (.con (.v (.int .i64 1))), (some 70), none, [], none⟩,
  ⟨.mov (.tmp 70), (some 64), none, [0], none⟩]
def d20r17 : List RO := [
  ⟨.mov (.tmp 9), (some 71), none, [], none⟩,
  ⟨.mov (.tmp 71), (some 6), none, [0, 0], none⟩,
  ⟨.mov (.con (.v (.int .i64 0))), (some 7), none, [1, 0, 1], none⟩]
def d20 : DC := (.seq (.region false d20r0)
  (.seq (.region false d20r1)
  (.seq (.region false d20r2)
  (.seq (.seq (.region false d20r3)
  (.block 0 (.loop (.seq (.region false d20r4)
  (.seq (.cond (.tmp 15) .skip
  (.exit 0))
  (.seq (.block 1 (.seq (.region false d20r5)
  (.seq (.seq (.region false d20r6)
  (.cond (.tmp 36) (.seq (.region false d20r7)
  .ret)
  .skip))
  (.seq (.region false d20r8)
  (.region false d20r9)))))
  (.region false d20r10)))))))
  (.seq (.seq (.region false d20r11)
  (.cond (.tmp 57) (.seq (.region false d20r12)
  .ret)
  .skip))
  (.seq (.seq (.region false d20r13)
  (.block 2 (.loop (.seq (.region false d20r14)
  (.seq (.cond (.tmp 65) .skip
  (.exit 2))
  (.seq (.block 3 (.region false d20r15))
  (.region false d20r16)))))))
  (.seq (.region false d20r17)
  .ret)))))))
def d20res : List DRes := [.slot 6, .slot 7]
theorem c20 [Laid] : CodeOf Tryd.prog 11 72 d20 d20res := ⟨Tryd.f11, by kernel_rfl, by kernel_rfl, by kernel_rfl, by kernel_rfl, by kernel_rfl⟩
-- emendate/emendateref37.Path
def d40r0 : List RO := [
  ⟨.box (.tmp 0), (some 2), none, [], none⟩,
  ⟨.mov (.con (.v (.int .i64 0))), (some 4), none, [], none⟩,
  ⟨.mov (.con (.v (.int .i64 0))), (some 5), none, [1], none⟩,
  ⟨.mov (.con (.v (.bool false))), (some 6), none, [2], none⟩]
def d40r1 : List RO := [
  ⟨.mov (.con (.v (.int .i64 0))), (some 7), none, [], none⟩]
def d40r2 : List RO := [
  ⟨.mov (.con (.v (.int .i64 0))), (some 8), none, [], none⟩]
def d40r3 : List RO := [
  ⟨.mov (.con (.v (.int .i64 0))), (some 9), none, [], none⟩]
def d40r4 : List RO := [
  ⟨.mov (.tmp 9), (some 10), none, [], none⟩,
  ⟨.mov (.tmp 1), (some 11), none, [], none⟩,
  ⟨.len (.tmp 11), (some 12), none, [1], none⟩,
  ⟨.bin .lss (.tmp 10) (.tmp 12), (some 13), none, [0, 2], none⟩]
def d40r5 : List RO := [
  ⟨.mov (.tmp 1), (some 16), none, [], none⟩,
  ⟨.mov (.tmp 9), (some 17), none, [], none⟩,
  ⟨.idxAddr 1 (.tmp 16) (.tmp 17), (some 18), none, [0, 1], none⟩,
  ⟨.load 1 false (.tmp 18), (some 19), none, [2], none⟩,
  ⟨.bin .lss (.tmp 19) (.con (.v (.int .i64 0))), (some 20), none, [3], none⟩,
  ⟨.mov (.tmp 20), (some 21), none, [4], none⟩,
  ⟨.mov (.tmp 1), (some 22), (some (21, false)), [5], none⟩,
  ⟨.mov (.tmp 9), (some 23), (some (21, false)), [5], none⟩,
  ⟨.idxAddr 1 (.tmp 22) (.tmp 23), (some 24), (some (21, false)), [6, 7, 5], none⟩,
  ⟨.load 1 false (.tmp 24), (some 25), (some (21, false)), [8, 5], none⟩,
  ⟨.addOff 1 (.tmp 2), (some 26), (some (21, false)), [5], none⟩,
  ⟨.load 1 false (.tmp 26), (some 27), (some (21, false)), [10, 5], none⟩,
  ⟨.len (.tmp 27), (some 28), (some (21, false)), [11, 5], none⟩,
  ⟨.bin .geq (.tmp 25) (.tmp 28), (some 29), (some (21, false)), [9, 12, 5], none⟩,
  ⟨.pick (.tmp 21) (.con (.v (.bool true))) (.tmp 29), (some 30), none, [5, 13], none⟩,
  ⟨.mov (.tmp 30), (some 31), none, [14, 5], none⟩,
  ⟨.addOff 1 (.tmp 2), (some 32), (some (31, false)), [15], none⟩,
  ⟨.load 1 false (.tmp 32), (some 33), (some (31, false)), [16, 15], none⟩,
  ⟨.mov (.tmp 1), (some 34), (some (31, false)), [15], none⟩,
  ⟨.mov (.tmp 9), (some 35), (some (31, false)), [15], none⟩,
  ⟨.idxAddr 1 (.tmp 34) (.tmp 35), (some 36), (some (31, false)), [18, 19, 15], none⟩,
  ⟨.load 1 false (.tmp 36), (some 37), (some (31, false)), [20, 15], none⟩,
  ⟨.idxAddr 5 (.tmp 33) (.tmp 37), (some 38), (some (31, false)), [17, 21, 15], none⟩,
  ⟨.addOff 0 (.tmp 38), (some 39), (some (31, false)), [22, 15], none⟩,
  ⟨.load 1 false (.tmp 39), (some 40), (some (31, false)), [23, 15], none⟩,
  ⟨.mov (.tmp 7), (some 41), (some (31, false)), [15], none⟩,
  ⟨.bin .neq (.tmp 40) (.tmp 41), (some 42), (some (31, false)), [24, 25, 15], none⟩,
  ⟨.pick (.tmp 31) (.con (.v (.bool true))) (.tmp 42), (some 43), none, [15, 26], none⟩]
def d40r6 : List RO := [
  ⟨.mov (.con (.v (.int .i64 0))), (some 4), none, [], none⟩,
  ⟨.mov (.con (.v (.int .i64 0))), (some 5), none, [0, 0], none⟩,
  ⟨.mov (.con (.v (.bool false))), (some 6), none, [1, 0, 1], none⟩]
def d40r7 : List RO := [
  ⟨.addOff 1 (.tmp 2), (some 44), none, [], none⟩,
  ⟨.load 1 false (.tmp 44), (some 45), none, [0], none⟩,
  ⟨.mov (.tmp 1), (some 46), none, [], none⟩,
  ⟨.mov (.tmp 9), (some 47), none, [], none⟩,
  ⟨.idxAddr 1 (.tmp 46) (.tmp 47), (some 48), none, [2, 3], none⟩,
  ⟨.load 1 false (.tmp 48), (some 49), none, [4], none⟩,
  ⟨.idxAddr 5 (.tmp 45) (.tmp 49), (some 50), none, [1, 5], none⟩,
  ⟨.addOff 1 (.tmp 50), (some 51), none, [6], none⟩,
  ⟨.load 1 false (.tmp 51), (some 52), none, [7], none⟩,
  ⟨.mov (.tmp 52), (some 7), none, [8, 0, 1, 2, 3, 4, 5, 6, 7, 8], none⟩]
def d40r8 : List RO := [
  ⟨.mov (.tmp 8), (some 53), none, [], none⟩,
  ⟨.addOff 1 (.tmp 2), (some 54), none, [], none⟩,
  ⟨.load 1 false (.tmp 54), (some 55), none, [1], none⟩,
  ⟨.mov (.tmp 1), (some 56), none, [], none⟩,
  ⟨.mov (.tmp 9), (some 57), none, [], none⟩,
  ⟨.idxAddr 1 (.tmp 56) (.tmp 57), (some 58), none, [3, 4], none⟩,
  ⟨.load 1 false (.tmp 58), (some 59), none, [5], none⟩,
  ⟨.idxAddr 5 (.tmp 55) (.tmp 59), (some 60), none, [2, 6], none⟩,
  ⟨.addOff 3 (.tmp 60), (some 61), none, [7], none⟩,
  ⟨.load 1 false (.tmp 61), (some 62), none, [8], none⟩,
  ⟨.call 28 [(.tmp 53), (.tmp 62)], (some 63), none, [0, 9], none⟩,
  ⟨.mov (.tmp 63), (some 8), none, [10, 10, 0, 1, 2, 3, 4, 5, 6, 7, 8, 9, 10], none⟩]
def d40r9 : List RO := [
  ⟨.mov (.tmp 9), (some 14), none, [], none⟩,
  ⟨.bin .add (.tmp 14) (.con (.v (.int .i64 1))), (some 15), none, [0], none⟩,
  ⟨.mov (.tmp 15), (some 9), none, [1, 0, 1], none⟩]
def d40r10 : List RO := [
  ⟨.addOff 2 (.tmp 2), (some 64), none, [], none⟩,
  ⟨.load 1 false (.tmp 64), (some 65), none, [0], none⟩,
  ⟨.mov (.tmp 7), (some 66), none, [], none⟩,
  ⟨.idxAddr 1 (.tmp 65) (.tmp 66), (some 67), none, [1, 2], none⟩,
  ⟨.load 1 false (.tmp 67), (some 68), none, [3], none⟩,
  ⟨.bin .geq (.tmp 68) (.con (.v (.int .i64 1099511627776))), (some 69), none, [4], none⟩]
def d40r11 : List RO := [
  ⟨.mov (.con (.v (.int .i64 0))), (some 4), none, [], none⟩,
  ⟨.mov (.con (.v (.int .i64 0))), (some 5), none, [0, 0], none⟩,
  ⟨.mov (.con (.v (.bool false))), (some 6), none, [1, 0, 1], none⟩]
def d40r12 : List RO := [
  ⟨.mov (.tmp 7), (some 70), none, [], none⟩,
  ⟨.mov (.tmp 8), (some 71), none, [], none⟩,
  ⟨.addOff 2 (.tmp 2), (some 72), none, [], none⟩,
  ⟨.load 1 false (.tmp 72), (some 73), none, [2], none⟩,
  ⟨.mov (.tmp 7), (some 74), none, [], none⟩,
  ⟨.idxAddr 1 (.tmp 73) (.tmp 74), (some 75), none, [3, 4], none⟩,
  ⟨.load 1 false (.tmp 75), (some 76), none, [5], none⟩,
  ⟨.call 28 [(.tmp 71), (.tmp 76)], (some 77), none, [1, 6], none⟩,
  ⟨.mov (.tmp 70), (some 4), none, [0, 7, 0], none⟩,
  ⟨.mov (.tmp 77), (some 5), none, [7, 8, 0, 1, 2, 3, 4, 5, 6, 7, 8], none⟩,
  ⟨.mov (.con (.v (.bool true))), (some 6), none, [9, 0, 1, 2, 3, 4, 5, 6, 7, 8, 9], none⟩]
def d40 : DC := (.seq (.region false d40r0)
  (.seq (.region false d40r1)
  (.seq (.region false d40r2)
  (.seq (.seq (.region false d40r3)
  (.block 0 (.loop (.seq (.seq (.region false d40r4)
  (.cond (.tmp 13) .skip
  (.exit 0)))
  (.seq (.block 1 (.seq (.seq (.region true d40r5)
  (.cond (.tmp 43) (.seq (.region false d40r6)
  .ret)
  .skip))
  (.seq (.region true d40r7)
  (.region true d40r8))))
  (.region false d40r9))))))
  (.seq (.seq (.region false d40r10)
  (.cond (.tmp 69) (.seq (.region false d40r11)
  .ret)
  .skip))
  (.seq (.region false d40r12)
  .ret))))))
def d40res : List DRes := [.slot 4, .slot 5, .slot 6]
theorem c40 [Laid] : CodeOf Tryd.prog 10 78 d40 d40res := ⟨Tryd.f10, by kernel_rfl, by kernel_rfl, by kernel_rfl, by kernel_rfl, by kernel_rfl⟩
-- emendate/emendateref37.SameOps
def d22r0 : List RO := [
  ⟨.mov (.con (.v (.bool false))), (some 4), none, [], none⟩]
def d22r1 : List RO := [
  ⟨.mov (.tmp 0), (some 6), none, [], none⟩,
  ⟨.len (.tmp 6), (some 7), none, [0], none⟩,
  ⟨.mov (.tmp 1), (some 8), none, [], none⟩,
  ⟨.len (.tmp 8), (some 9), none, [2], none⟩,
  ⟨.bin .neq (.tmp 7) (.tmp 9), (some 10), none, [1, 3], none⟩]
def d22r2 : List RO := [
  ⟨.mov (.con (.v (.bool false))), (some 4), none, [], none⟩]
def d22r3 : List RO := [
  ⟨.mov (.con (.v (.int .i64 0))), (some 5), none, [], none⟩]
def d22r4 : List RO := [
  ⟨.mov (.tmp 5), (some 11), none, [], none⟩,
  ⟨.mov (.tmp 0), (some 12), none, [], none⟩,
  ⟨.len (.tmp 12), (some 13), none, [1], none⟩,
  ⟨.bin .lss (.tmp 11) (.tmp 13), (some 14), none, [0, 2], none⟩]
def d22r5 : List RO := [
  ⟨.mov (.tmp 0), (some 17), none, [], none⟩,
  ⟨.mov (.tmp 5), (some 18), none, [], none⟩,
  ⟨.idxAddr 2 (.tmp 17) (.tmp 18), (some 19), none, [0, 1], none⟩,
  ⟨.load 2 true (.tmp 19), (some 20), none, [2], none⟩,
  ⟨.mov (.tmp 1), (some 21), none, [], none⟩,
  ⟨.mov (.tmp 5), (some 22), none, [], none⟩,
  ⟨.idxAddr 2 (.tmp 21) (.tmp 22), (some 23), none, [4, 5], none⟩,
  ⟨.load 2 true (.tmp 23), (some 24), none, [6], none⟩,
  ⟨.eqT true true [(.int .i64), (.int .i64)] (.tmp 20) (.tmp 24), (some 25), none, [3, 7], none⟩]
def d22r6 : List RO := [
  ⟨.mov (.con (.v (.bool false))), (some 4), none, [], none⟩]
def d22r7 : List RO := [
  ⟨.mov (.tmp 5), (some 15), none, [], none⟩,
  ⟨.bin .add (.tmp 15) (.con (.v (.int .i64 1))), (some 16), none, [0], none⟩,
  ⟨.mov (.tmp 16), (some 5), none, [1, 0, 1], none⟩]
def d22r8 : List RO := [
  ⟨.mov (.con (.v (.bool true))), (some 4), none, [], none⟩]
def d22 : DC := (.seq (.region false d22r0)
  (.seq (.seq (.region false d22r1)
  (.cond (.tmp 10) (.seq (.region false d22r2)
  .ret)
  .skip))
  (.seq (.seq (.region false d22r3)
  (.block 0 (.loop (.seq (.seq (.region false d22r4)
  (.cond (.tmp 14) .skip
  (.exit 0)))
  (.seq (.block 1 (.seq (.region true d22r5)
  (.cond (.tmp 25) (.seq (.region false d22r6)
  .ret)
  .skip)))
  (.region false d22r7))))))
  (.seq (.region false d22r8)
  .ret))))
def d22res : List DRes := [.slot 4]
theorem c22 [Laid] : CodeOf Tryd.prog 17 26 d22 d22res := ⟨Tryd.f17, by kernel_rfl, by kernel_rfl, by kernel_rfl, by kernel_rfl, by kernel_rfl⟩
-- emendate/emendateref37.SameArc
def d23r0 : List RO := [
  ⟨.box (.tmp 0), (some 2), none, [], none⟩,
  ⟨.box (.tmp 1), (some 3), none, [], none⟩,
  ⟨.mov (.con (.v (.bool false))), (some 4), none, [], none⟩]
def d23r1 : List RO := [
  ⟨.addOff 0 (.tmp 2), (some 5), none, [], none⟩,
  ⟨.load 1 false (.tmp 5), (some 6), none, [0], none⟩,
  ⟨.addOff 0 (.tmp 3), (some 7), none, [], none⟩,
  ⟨.load 1 false (.tmp 7), (some 8), none, [2], none⟩,
  ⟨.bin .eql (.tmp 6) (.tmp 8), (some 9), none, [1, 3], none⟩,
  ⟨.mov (.tmp 9), (some 10), none, [4], none⟩,
  ⟨.addOff 1 (.tmp 2), (some 11), (some (10, true)), [5], none⟩,
  ⟨.load 1 false (.tmp 11), (some 12), (some (10, true)), [6, 5], none⟩,
  ⟨.addOff 1 (.tmp 3), (some 13), (some (10, true)), [5], none⟩,
  ⟨.load 1 false (.tmp 13), (some 14), (some (10, true)), [8, 5], none⟩,
  ⟨.bin .eql (.tmp 12) (.tmp 14), (some 15), (some (10, true)), [7, 9, 5], none⟩,
  ⟨.pick (.tmp 10) (.tmp 15) (.con (.v (.bool false))), (some 16), none, [5, 10], none⟩,
  ⟨.mov (.tmp 16), (some 17), none, [11, 5], none⟩,
  ⟨.addOff 2 (.tmp 2), (some 18), (some (17, true)), [12], none⟩,
  ⟨.load 1 false (.tmp 18), (some 19), (some (17, true)), [13, 12], none⟩,
  ⟨.addOff 2 (.tmp 3), (some 20), (some (17, true)), [12], none⟩,
  ⟨.load 1 false (.tmp 20), (some 21), (some (17, true)), [15, 12], none⟩,
  ⟨.bin .eql (.tmp 19) (.tmp 21), (some 22), (some (17, true)), [14, 16, 12], none⟩,
  ⟨.pick (.tmp 17) (.tmp 22) (.con (.v (.bool false))), (some 23), none, [12, 17], none⟩,
  ⟨.mov (.tmp 23), (some 24), none, [18, 12], none⟩,
  ⟨.addOff 3 (.tmp 2), (some 25), (some (24, true)), [19], none⟩,
  ⟨.load 1 false (.tmp 25), (some 26), (some (24, true)), [20, 19], none⟩,
  ⟨.addOff 3 (.tmp 3), (some 27), (some (24, true)), [19], none⟩,
  ⟨.load 1 false (.tmp 27), (some 28), (some (24, true)), [22, 19], none⟩,
  ⟨.bin .eql (.tmp 26) (.tmp 28), (some 29), (some (24, true)), [21, 23, 19], none⟩,
  ⟨.pick (.tmp 24) (.tmp 29) (.con (.v (.bool false))), (some 30), none, [19, 24], none⟩,
  ⟨.mov (.tmp 30), (some 31), none, [25, 19], none⟩,
  ⟨.addOff 4 (.tmp 2), (some 32), (some (31, true)), [26], none⟩,
  ⟨.load 1 false (.tmp 32), (some 33), (some (31, true)), [27, 26], none⟩,
  ⟨.addOff 4 (.tmp 3), (some 34), (some (31, true)), [26], none⟩,
  ⟨.load 1 false (.tmp 34), (some 35), (some (31, true)), [29, 26], none⟩,
  ⟨.call 17 [(.tmp 33), (.tmp 35)], (some 36), (some (31, true)), [28, 30, 26, 26], none⟩,
  ⟨.pick (.tmp 31) (.tmp 36) (.con (.v (.bool false))), (some 37), none, [26, 31], none⟩,
  ⟨.mov (.tmp 37), (some 4), none, [32, 31, 0, 1, 2, 3, 4, 5, 6, 7, 8, 9, 10, 11, 12, 13, 14, 15, 16, 17, 18, 19, 20, 21, 22, 23, 24, 25, 26, 27, 28, 29, 30, 31, 32], none⟩]
def d23 : DC := (.seq (.region false d23r0)
  (.seq (.region false d23r1)
  .ret))
def d23res : List DRes := [.slot 4]
theorem c23 [Laid] : CodeOf Tryd.prog 15 38 d23 d23res := ⟨Tryd.f15, by kernel_rfl, by kernel_rfl, by kernel_rfl, by kernel_rfl, by kernel_rfl⟩
-- emendate/emendateref37.Ints
def d26r0 : List RO := [
  ⟨.mov (.con (.v (.bool false))), (some 4), none, [], none⟩]
def d26r1 : List RO := [
  ⟨.mov (.tmp 0), (some 6), none, [], none⟩,
  ⟨.len (.tmp 6), (some 7), none, [0], none⟩,
  ⟨.mov (.tmp 1), (some 8), none, [], none⟩,
  ⟨.len (.tmp 8), (some 9), none, [2], none⟩,
  ⟨.bin .neq (.tmp 7) (.tmp 9), (some 10), none, [1, 3], none⟩]
def d26r2 : List RO := [
  ⟨.mov (.con (.v (.bool false))), (some 4), none, [], none⟩]
def d26r3 : List RO := [
  ⟨.mov (.con (.v (.int .i64 0))), (some 5), none, [], none⟩]
def d26r4 : List RO := [
  ⟨.mov (.tmp 5), (some 11), none, [], none⟩,
  ⟨.mov (.tmp 0), (some 12), none, [], none⟩,
  ⟨.len (.tmp 12), (some 13), none, [1], none⟩,
  ⟨.bin .lss (.tmp 11) (.tmp 13), (some 14), none, [0, 2], none⟩]
def d26r5 : List RO := [
  ⟨.mov (.tmp 0), (some 17), none, [], none⟩,
  ⟨.mov (.tmp 5), (some 18), none, [], none⟩,
  ⟨.idxAddr 1 (.tmp 17) (.tmp 18), (some 19), none, [0, 1], none⟩,
  ⟨.load 1 false (.tmp 19), (some 20), none, [2], none⟩,
  ⟨.mov (.tmp 1), (some 21), none, [], none⟩,
  ⟨.mov (.tmp 5), (some 22), none, [], none⟩,
  ⟨.idxAddr 1 (.tmp 21) (.tmp 22), (some 23), none, [4, 5], none⟩,
  ⟨.load 1 false (.tmp 23), (some 24), none, [6], none⟩,
  ⟨.bin .neq (.tmp 20) (.tmp 24), (some 25), none, [3, 7], none⟩]
def d26r6 : List RO := [
  ⟨.mov (.con (.v (.bool false))), (some 4), none, [], none⟩]
def d26r7 : List RO := [
  ⟨.mov (.tmp 5), (some 15), none, [], none⟩,
  ⟨.bin .add (.tmp 15) (.con (.v (.int .i64 1))), (some 16), none, [0], none⟩,
  ⟨.mov (.tmp 16), (some 5), none, [1, 0, 1], none⟩]
def d26r8 : List RO := [
  ⟨.mov (.con (.v (.bool true))), (some 4), none, [], none⟩]
def d26 : DC := (.seq (.region false d26r0)
  (.seq (.seq (.region false d26r1)
  (.cond (.tmp 10) (.seq (.region false d26r2)
  .ret)
  .skip))
  (.seq (.seq (.region false d26r3)
  (.block 0 (.loop (.seq (.seq (.region false d26r4)
  (.cond (.tmp 14) .skip
  (.exit 0)))
  (.seq (.block 1 (.seq (.region true d26r5)
  (.cond (.tmp 25) (.seq (.region false d26r6)
  .ret)
  .skip)))
  (.region false d26r7))))))
  (.seq (.region false d26r8)
  .ret))))
def d26res : List DRes := [.slot 4]
theorem c26 [Laid] : CodeOf Tryd.prog 14 26 d26 d26res := ⟨Tryd.f14, by kernel_rfl, by kernel_rfl, by kernel_rfl, by kernel_rfl, by kernel_rfl⟩
-- emendate/emendateref37.Small
def d27r0 : List RO := [
  ⟨.box (.tmp 0), (some 3), none, [], none⟩,
  ⟨.mov (.con (.v (.bool false))), (some 6), none, [], none⟩]
def d27r1 : List RO := [
  ⟨.addOff 0 (.tmp 3), (some 7), none, [], none⟩,
  ⟨.load 1 false (.tmp 7), (some 8), none, [0], none⟩,
  ⟨.len (.tmp 8), (some 9), none, [1], none⟩,
  ⟨.mov (.tmp 1), (some 10), none, [], none⟩,
  ⟨.bin .leq (.tmp 9) (.tmp 10), (some 11), none, [2, 3], none⟩,
  ⟨.mov (.tmp 11), (some 12), none, [4], none⟩,
  ⟨.addOff 1 (.tmp 3), (some 13), (some (12, true)), [5], none⟩,
  ⟨.load 1 false (.tmp 13), (some 14), (some (12, true)), [6, 5], none⟩,
  ⟨.len (.tmp 14), (some 15), (some (12, true)), [7, 5], none⟩,
  ⟨.mov (.tmp 2), (some 16), (some (12, true)), [5], none⟩,
  ⟨.bin .leq (.tmp 15) (.tmp 16), (some 17), (some (12, true)), [8, 9, 5], none⟩,
  ⟨.pick (.tmp 12) (.tmp 17) (.con (.v (.bool false))), (some 18), none, [5, 10], none⟩,
  ⟨.mov (.tmp 18), (some 6), none, [11, 5, 0, 1, 2, 3, 4, 5, 6, 7, 8, 9, 10, 11], none⟩]
def d27 : DC := (.seq (.region false d27r0)
  (.seq (.region false d27r1)
  .ret))
def d27res : List DRes := [.slot 6]
theorem c27 [Laid] : CodeOf Tryd.prog 19 19 d27 d27res := ⟨Tryd.f19, by kernel_rfl, by kernel_rfl, by kernel_rfl, by kernel_rfl, by kernel_rfl⟩
-- emendate/emendateref35.Valid
def d28r0 : List RO := [
  ⟨.box (.tmp 0), (some 2), none, [], none⟩,
  ⟨.mov (.con (.v (.bool false))), (some 4), none, [], none⟩]
def d28r1 : List RO := [
  ⟨.mov (.tmp 1), (some 6), none, [], none⟩,
  ⟨.bin .lss (.tmp 6) (.con (.v (.int .i64 0))), (some 7), none, [0], none⟩,
  ⟨.mov (.tmp 7), (some 8), none, [1], none⟩,
  ⟨.addOff 0 (.tmp 2), (some 9), (some (8, false)), [2], none⟩,
  ⟨.load 1 false (.tmp 9), (some 10), (some (8, false)), [3, 2], none⟩,
  ⟨.len (.tmp 10), (some 11), (some (8, false)), [4, 2], none⟩,
  ⟨.bin .gtr (.tmp 11) (.con (.v (.int .i64 60))), (some 12), (some (8, false)), [5, 2], none⟩,
  ⟨.pick (.tmp 8) (.con (.v (.bool true))) (.tmp 12), (some 13), none, [2, 6], none⟩,
  ⟨.mov (.tmp 13), (some 14), none, [7, 2], none⟩,
  ⟨.addOff 1 (.tmp 2), (some 15), (some (14, false)), [8], none⟩,
  ⟨.load 1 false (.tmp 15), (some 16), (some (14, false)), [9, 8], none⟩,
  ⟨.len (.tmp 16), (some 17), (some (14, false)), [10, 8], none⟩,
  ⟨.mov (.tmp 1), (some 18), (some (14, false)), [8], none⟩,
  ⟨.bin .neq (.tmp 17) (.tmp 18), (some 19), (some (14, false)), [11, 12, 8], none⟩,
  ⟨.pick (.tmp 14) (.con (.v (.bool true))) (.tmp 19), (some 20), none, [8, 13], none⟩,
  ⟨.mov (.tmp 20), (some 21), none, [14, 8], none⟩,
  ⟨.addOff 2 (.tmp 2), (some 22), (some (21, false)), [15], none⟩,
  ⟨.load 1 false (.tmp 22), (some 23), (some (21, false)), [16, 15], none⟩,
  ⟨.bin .lss (.tmp 23) (.con (.v (.int .i64 0))), (some 24), (some (21, false)), [17, 15], none⟩,
  ⟨.pick (.tmp 21) (.con (.v (.bool true))) (.tmp 24), (some 25), none, [15, 18], none⟩,
  ⟨.mov (.tmp 25), (some 26), none, [19, 15], none⟩,
  ⟨.addOff 2 (.tmp 2), (some 27), (some (26, false)), [20], none⟩,
  ⟨.load 1 false (.tmp 27), (some 28), (some (26, false)), [21, 20], none⟩,
  ⟨.bin .gtr (.tmp 28) (.con (.v (.int .i64 60000))), (some 29), (some (26, false)), [22, 20], none⟩,
  ⟨.pick (.tmp 26) (.con (.v (.bool true))) (.tmp 29), (some 30), none, [20, 23], none⟩,
  ⟨.mov (.tmp 30), (some 31), none, [24, 20], none⟩,
  ⟨.addOff 0 (.tmp 2), (some 32), (some (31, false)), [25], none⟩,
  ⟨.load 1 false (.tmp 32), (some 33), (some (31, false)), [26, 25], none⟩,
  ⟨.mov (.tmp 1), (some 34), (some (31, false)), [25], none⟩,
  ⟨.call 32 [(.tmp 33), (.tmp 34)], (some 35), (some (31, false)), [27, 28, 25, 25], none⟩,
  ⟨.un .not (.tmp 35), (some 36), (some (31, false)), [29, 25], none⟩,
  ⟨.pick (.tmp 31) (.con (.v (.bool true))) (.tmp 36), (some 37), none, [25, 30], none⟩]
def d28r2 : List RO := [
  ⟨.mov (.con (.v (.bool false))), (some 4), none, [], none⟩]
def d28r3 : List RO := [
  ⟨.mov (.con (.v (.int .i64 0))), (some 5), none, [], none⟩]
def d28r4 : List RO := [
  ⟨.mov (.tmp 5), (some 38), none, [], none⟩,
  ⟨.mov (.tmp 1), (some 39), none, [], none⟩,
  ⟨.bin .lss (.tmp 38) (.tmp 39), (some 40), none, [0, 1], none⟩]
def d28r5 : List RO := [
  ⟨.addOff 1 (.tmp 2), (some 43), none, [], none⟩,
  ⟨.load 1 false (.tmp 43), (some 44), none, [0], none⟩,
  ⟨.mov (.tmp 5), (some 45), none, [], none⟩,
  ⟨.idxAddr 1 (.tmp 44) (.tmp 45), (some 46), none, [1, 2], none⟩,
  ⟨.load 1 false (.tmp 46), (some 47), none, [3], none⟩,
  ⟨.bin .lss (.tmp 47) (.con (.v (.int .i64 1))), (some 48), none, [4], none⟩,
  ⟨.mov (.tmp 48), (some 49), none, [5], none⟩,
  ⟨.addOff 1 (.tmp 2), (some 50), (some (49, false)), [6], none⟩,
  ⟨.load 1 false (.tmp 50), (some 51), (some (49, false)), [7, 6], none⟩,
  ⟨.mov (.tmp 5), (some 52), (some (49, false)), [6], none⟩,
  ⟨.idxAddr 1 (.tmp 51) (.tmp 52), (some 53), (some (49, false)), [8, 9, 6], none⟩,
  ⟨.load 1 false (.tmp 53), (some 54), (some (49, false)), [10, 6], none⟩,
  ⟨.bin .gtr (.tmp 54) (.con (.v (.int .i64 60000))), (some 55), (some (49, false)), [11, 6], none⟩,
  ⟨.pick (.tmp 49) (.con (.v (.bool true))) (.tmp 55), (some 56), none, [6, 12], none⟩]
def d28r6 : List RO := [
  ⟨.mov (.con (.v (.bool false))), (some 4), none, [], none⟩]
def d28r7 : List RO := [
  ⟨.mov (.tmp 5), (some 41), none, [], none⟩,
  ⟨.bin .add (.tmp 41) (.con (.v (.int .i64 1))), (some 42), none, [0], none⟩,
  ⟨.mov (.tmp 42), (some 5), none, [1, 0, 1], none⟩]
def d28r8 : List RO := [
  ⟨.mov (.con (.v (.bool true))), (some 4), none, [], none⟩]
def d28 : DC := (.seq (.region false d28r0)
  (.seq (.seq (.region false d28r1)
  (.cond (.tmp 37) (.seq (.region false d28r2)
  .ret)
  .skip))
  (.seq (.seq (.region false d28r3)
  (.block 0 (.loop (.seq (.seq (.region false d28r4)
  (.cond (.tmp 40) .skip
  (.exit 0)))
  (.seq (.block 1 (.seq (.region false d28r5)
  (.cond (.tmp 56) (.seq (.region false d28r6)
  .ret)
  .skip)))
  (.region false d28r7))))))
  (.seq (.region false d28r8)
  .ret))))
def d28res : List DRes := [.slot 4]
theorem c28 [Laid] : CodeOf Tryd.prog 20 57 d28 d28res := ⟨Tryd.f20, by kernel_rfl, by kernel_rfl, by kernel_rfl, by kernel_rfl, by kernel_rfl⟩
-- emendate/emendateref35.columns
def d45r0 : List RO := [
  ⟨.mov (.con (.v (.bool false))), (some 4), none, [], none⟩]
def d45r1 : List RO := [
  ⟨.mov (.con (.v (.int .i64 0))), (some 5), none, [], none⟩]
def d45r2 : List RO := [
  ⟨.mov (.tmp 5), (some 6), none, [], none⟩,
  ⟨.mov (.tmp 0), (some 7), none, [], none⟩,
  ⟨.len (.tmp 7), (some 8), none, [1], none⟩,
  ⟨.bin .lss (.tmp 6) (.tmp 8), (some 9), none, [0, 2], none⟩]
def d45r3 : List RO := [
  ⟨.mov (.tmp 0), (some 12), none, [], none⟩,
  ⟨.mov (.tmp 5), (some 13), none, [], none⟩,
  ⟨.idxAddr 3 (.tmp 12) (.tmp 13), (some 14), none, [0, 1], none⟩,
  ⟨.load 3 true (.tmp 14), (some 15), none, [2], none⟩,
  ⟨.mov (.tmp 1), (some 16), none, [], none⟩,
  ⟨.call 43 [(.tmp 15), (.tmp 16)], (some 17), none, [3, 4], none⟩,
  ⟨.un .not (.tmp 17), (some 18), none, [5], none⟩]
def d45r4 : List RO := [
  ⟨.mov (.con (.v (.bool false))), (some 4), none, [], none⟩]
def d45r5 : List RO := [
  ⟨.mov (.tmp 5), (some 10), none, [], none⟩,
  ⟨.bin .add (.tmp 10) (.con (.v (.int .i64 1))), (some 11), none, [0], none⟩,
  ⟨.mov (.tmp 11), (some 5), none, [1, 0, 1], none⟩]
def d45r6 : List RO := [
  ⟨.mov (.con (.v (.bool true))), (some 4), none, [], none⟩]
def d45 : DC := (.seq (.region false d45r0)
  (.seq (.seq (.region false d45r1)
  (.block 0 (.loop (.seq (.seq (.region false d45r2)
  (.cond (.tmp 9) .skip
  (.exit 0)))
  (.seq (.block 1 (.seq (.region false d45r3)
  (.cond (.tmp 18) (.seq (.region false d45r4)
  .ret)
  .skip)))
  (.region false d45r5))))))
  (.seq (.region false d45r6)
  .ret)))
def d45res : List DRes := [.slot 4]
theorem c45 [Laid] : CodeOf Tryd.prog 32 19 d45 d45res := ⟨Tryd.f32, by kernel_rfl, by kernel_rfl, by kernel_rfl, by kernel_rfl, by kernel_rfl⟩
-- emendate/emendateref35.Column
def d58r0 : List RO := [
  ⟨.box (.tmp 0), (some 2), none, [], none⟩,
  ⟨.mov (.con (.v (.bool false))), (some 4), none, [], none⟩]
def d58r1 : List RO := [
  ⟨.addOff 0 (.tmp 2), (some 7), none, [], none⟩,
  ⟨.load 1 false (.tmp 7), (some 8), none, [0], none⟩,
  ⟨.bin .lss (.tmp 8) (.con (.v (.int .i64 (-1)))), (some 9), none, [1], none⟩,
  ⟨.mov (.tmp 9), (some 10), none, [2], none⟩,
  ⟨.addOff 0 (.tmp 2), (some 11), (some (10, false)), [3], none⟩,
  ⟨.load 1 false (.tmp 11), (some 12), (some (10, false)), [4, 3], none⟩,
  ⟨.mov (.tmp 1), (some 13), (some (10, false)), [3], none⟩,
  ⟨.bin .geq (.tmp 12) (.tmp 13), (some 14), (some (10, false)), [5, 6, 3], none⟩,
  ⟨.pick (.tmp 10) (.con (.v (.bool true))) (.tmp 14), (some 15), none, [3, 7], none⟩,
  ⟨.mov (.tmp 15), (some 16), none, [8, 3], none⟩,
  ⟨.addOff 1 (.tmp 2), (some 17), (some (16, false)), [9], none⟩,
  ⟨.load 1 false (.tmp 17), (some 18), (some (16, false)), [10, 9], none⟩,
  ⟨.len (.tmp 18), (some 19), (some (16, false)), [11, 9], none⟩,
  ⟨.mov (.tmp 1), (some 20), (some (16, false)), [9], none⟩,
  ⟨.bin .neq (.tmp 19) (.tmp 20), (some 21), (some (16, false)), [12, 13, 9], none⟩,
  ⟨.pick (.tmp 16) (.con (.v (.bool true))) (.tmp 21), (some 22), none, [9, 14], none⟩,
  ⟨.mov (.tmp 22), (some 23), none, [15, 9], none⟩,
  ⟨.addOff 2 (.tmp 2), (some 24), (some (23, false)), [16], none⟩,
  ⟨.load 1 false (.tmp 24), (some 25), (some (23, false)), [17, 16], none⟩,
  ⟨.bin .lss (.tmp 25) (.con (.v (.int .i64 1))), (some 26), (some (23, false)), [18, 16], none⟩,
  ⟨.pick (.tmp 23) (.con (.v (.bool true))) (.tmp 26), (some 27), none, [16, 19], none⟩,
  ⟨.mov (.tmp 27), (some 28), none, [20, 16], none⟩,
  ⟨.addOff 2 (.tmp 2), (some 29), (some (28, false)), [21], none⟩,
  ⟨.load 1 false (.tmp 29), (some 30), (some (28, false)), [22, 21], none⟩,
  ⟨.bin .gtr (.tmp 30) (.con (.v (.int .i64 60000))), (some 31), (some (28, false)), [23, 21], none⟩,
  ⟨.mov (.tmp 31), (some 32), (some (28, false)), [24, 21, 21], none⟩,
  ⟨.addOff 2 (.tmp 2), (some 33), (some (32, true)), [25], none⟩,
  ⟨.load 1 false (.tmp 33), (some 34), (some (32, true)), [26, 25], none⟩,
  ⟨.bin .neq (.tmp 34) (.con (.v (.int .i64 1099511627776))), (some 35), (some (32, true)), [27, 25], none⟩,
  ⟨.pick (.tmp 32) (.tmp 35) (.con (.v (.bool false))), (some 36), (some (28, false)), [25, 28, 21], none⟩,
  ⟨.pick (.tmp 28) (.con (.v (.bool true))) (.tmp 36), (some 37), none, [21, 29], none⟩]
def d58r2 : List RO := [
  ⟨.mov (.con (.v (.bool false))), (some 4), none, [], none⟩]
def d58r3 : List RO := [
  ⟨.mov (.con (.v (.int .i64 0))), (some 5), none, [], none⟩]
def d58r4 : List RO := [
  ⟨.mov (.tmp 5), (some 38), none, [], none⟩,
  ⟨.mov (.tmp 1), (some 39), none, [], none⟩,
  ⟨.bin .lss (.tmp 38) (.tmp 39), (some 40), none, [0, 1], none⟩]
def d58r5 : List RO := [
  ⟨.addOff 1 (.tmp 2), (some 43), none, [], none⟩,
  ⟨.load 1 false (.tmp 43), (some 44), none, [0], none⟩,
  ⟨.mov (.tmp 5), (some 45), none, [], none⟩,
  ⟨.idxAddr 1 (.tmp 44) (.tmp 45), (some 46), none, [1, 2], none⟩,
  ⟨.load 1 false (.tmp 46), (some 47), none, [3], none⟩,
  ⟨.mov (.tmp 47), (some 6), none, [4, 0, 1, 2, 3, 4], none⟩]
def d58r6 : List RO := [
  ⟨.mov (.tmp 5), (some 48), none, [], none⟩,
  ⟨.addOff 0 (.tmp 2), (some 49), none, [], none⟩,
  ⟨.load 1 false (.tmp 49), (some 50), none, [1], none⟩,
  ⟨.bin .eql (.tmp 48) (.tmp 50), (some 51), none, [0, 2], none⟩,
  ⟨.mov (.tmp 51), (some 52), none, [3], none⟩,
  ⟨.mov (.tmp 6), (some 53), (some (52, true)), [4], none⟩,
  ⟨.bin .neq (.tmp 53) (.con (.v (.int .i64 0))), (some 54), (some (52, true)), [5, 4], none⟩,
  ⟨.pick (.tmp 52) (.tmp 54) (.con (.v (.bool false))), (some 55), none, [4, 6], none⟩,
  ⟨.mov (.tmp 55), (some 56), none, [7, 4], none⟩,
  ⟨.mov (.tmp 5), (some 57), (some (56, false)), [8], none⟩,
  ⟨.addOff 0 (.tmp 2), (some 58), (some (56, false)), [8], none⟩,
  ⟨.load 1 false (.tmp 58), (some 59), (some (56, false)), [10, 8], none⟩,
  ⟨.bin .neq (.tmp 57) (.tmp 59), (some 60), (some (56, false)), [9, 11, 8], none⟩,
  ⟨.mov (.tmp 60), (some 61), (some (56, false)), [12, 8, 8], none⟩,
  ⟨.mov (.tmp 6), (some 62), (some (61, true)), [13], none⟩,
  ⟨.bin .neq (.tmp 62) (.con (.v (.int .i64 (-1)))), (some 63), (some (61, true)), [14, 13], none⟩,
  ⟨.pick (.tmp 61) (.tmp 63) (.con (.v (.bool false))), (some 64), (some (56, false)), [13, 15, 8], none⟩,
  ⟨.mov (.tmp 64), (some 65), (some (56, false)), [16, 13, 8], none⟩,
  ⟨.mov (.tmp 6), (some 66), (some (65, true)), [17], none⟩,
  ⟨.bin .lss (.tmp 66) (.con (.v (.int .i64 1))), (some 67), (some (65, true)), [18, 17], none⟩,
  ⟨.mov (.tmp 67), (some 68), (some (65, true)), [19, 17, 17], none⟩,
  ⟨.mov (.tmp 6), (some 69), (some (68, false)), [20], none⟩,
  ⟨.bin .gtr (.tmp 69) (.con (.v (.int .i64 60000))), (some 70), (some (68, false)), [21, 20], none⟩,
  ⟨.pick (.tmp 68) (.con (.v (.bool true))) (.tmp 70), (some 71), (some (65, true)), [20, 22, 17], none⟩,
  ⟨.pick (.tmp 65) (.tmp 71) (.con (.v (.bool false))), (some 72), (some (56, false)), [17, 23, 8], none⟩,
  ⟨.pick (.tmp 56) (.con (.v (.bool true))) (.tmp 72), (some 73), none, [8, 24], none⟩]
def d58r7 : List RO := [
  ⟨.mov (.con (.v (.bool false))), (some 4), none, [], none⟩]
def d58r8 : List RO := [
  ⟨.mov (.tmp 5), (some 41), none, [], none⟩,
  ⟨.bin .add (.tmp 41) (.con (.v (.int .i64 1))), (some 42), none, [0], none⟩,
  ⟨.mov (.tmp 42), (some 5), none, [1, 0, 1], none⟩]
def d58r9 : List RO := [
  ⟨.mov (.con (.v (.bool true))), (some 4), none, [], none⟩]
def d58 : DC := (.seq (.region false d58r0)
  (.seq (.seq (.region false d58r1)
  (.cond (.tmp 37) (.seq (.region false d58r2)
  .ret)
  .skip))
  (.seq (.seq (.region false d58r3)
  (.block 0 (.loop (.seq (.seq (.region false d58r4)
  (.cond (.tmp 40) .skip
  (.exit 0)))
  (.seq (.block 1 (.seq (.region false d58r5)
  (.seq (.region false d58r6)
  (.cond (.tmp 73) (.seq (.region false d58r7)
  .ret)
  .skip))))
  (.region false d58r8))))))
  (.seq (.region false d58r9)
  .ret))))
def d58res : List DRes := [.slot 4]
theorem c58 [Laid] : CodeOf Tryd.prog 43 74 d58 d58res := ⟨Tryd.f43, by kernel_rfl, by kernel_rfl, by kernel_rfl, by kernel_rfl, by kernel_rfl⟩
-- emendate/emendateref37.Before
def d39r0 : List RO := [
  ⟨.box (.tmp 0), (some 2), none, [], none⟩,
  ⟨.box (.tmp 1), (some 3), none, [], none⟩,
  ⟨.mov (.con (.v (.bool false))), (some 4), none, [], none⟩]
def d39r1 : List RO := [
  ⟨.addOff 0 (.tmp 2), (some 5), none, [], none⟩,
  ⟨.load 1 false (.tmp 5), (some 6), none, [0], none⟩,
  ⟨.addOff 0 (.tmp 3), (some 7), none, [], none⟩,
  ⟨.load 1 false (.tmp 7), (some 8), none, [2], none⟩,
  ⟨.bin .neq (.tmp 6) (.tmp 8), (some 9), none, [1, 3], none⟩]
def d39r2 : List RO := [
  ⟨.addOff 0 (.tmp 2), (some 10), none, [], none⟩,
  ⟨.load 1 false (.tmp 10), (some 11), none, [0], none⟩,
  ⟨.addOff 0 (.tmp 3), (some 12), none, [], none⟩,
  ⟨.load 1 false (.tmp 12), (some 13), none, [2], none⟩,
  ⟨.bin .lss (.tmp 11) (.tmp 13), (some 14), none, [1, 3], none⟩,
  ⟨.mov (.tmp 14), (some 4), none, [4, 0, 1, 2, 3, 4], none⟩]
def d39r3 : List RO := [
  ⟨.addOff 1 (.tmp 2), (some 15), none, [], none⟩,
  ⟨.load 1 false (.tmp 15), (some 16), none, [0], none⟩,
  ⟨.addOff 1 (.tmp 3), (some 17), none, [], none⟩,
  ⟨.load 1 false (.tmp 17), (some 18), none, [2], none⟩,
  ⟨.bin .neq (.tmp 16) (.tmp 18), (some 19), none, [1, 3], none⟩]
def d39r4 : List RO := [
  ⟨.addOff 1 (.tmp 2), (some 20), none, [], none⟩,
  ⟨.load 1 false (.tmp 20), (some 21), none, [0], none⟩,
  ⟨.addOff 1 (.tmp 3), (some 22), none, [], none⟩,
  ⟨.load 1 false (.tmp 22), (some 23), none, [2], none⟩,
  ⟨.bin .lss (.tmp 21) (.tmp 23), (some 24), none, [1, 3], none⟩,
  ⟨.mov (.tmp 24), (some 4), none, [4, 0, 1, 2, 3, 4], none⟩]
def d39r5 : List RO := [
  ⟨.addOff 2 (.tmp 2), (some 25), none, [], none⟩,
  ⟨.load 1 false (.tmp 25), (some 26), none, [0], none⟩,
  ⟨.addOff 2 (.tmp 3), (some 27), none, [], none⟩,
  ⟨.load 1 false (.tmp 27), (some 28), none, [2], none⟩,
  ⟨.bin .lss (.tmp 26) (.tmp 28), (some 29), none, [1, 3], none⟩,
  ⟨.mov (.tmp 29), (some 4), none, [4, 0, 1, 2, 3, 4], none⟩]
def d39 : DC := (.seq (.region false d39r0)
  (.seq (.seq (.region false d39r1)
  (.cond (.tmp 9) (.seq (.region false d39r2)
  .ret)
  .skip))
  (.seq (.seq (.region false d39r3)
  (.cond (.tmp 19) (.seq (.region false d39r4)
  .ret)
  .skip))
  (.seq (.region false d39r5)
  .ret))))
def d39res : List DRes := [.slot 4]
theorem c39 [Laid] : CodeOf Tryd.prog 42 30 d39 d39res := ⟨Tryd.f42, by kernel_rfl, by kernel_rfl, by kernel_rfl, by kernel_rfl, by kernel_rfl⟩
-- emendate/emendateref37.add
def d36r0 : List RO := [
  ⟨.mov (.con (.v (.int .i64 0))), (some 4), none, [], none⟩]
def d36r1 : List RO := [
  ⟨.mov (.tmp 0), (some 5), none, [], none⟩,
  ⟨.bin .geq (.tmp 5) (.con (.v (.int .i64 1099511627776))), (some 6), none, [0], none⟩,
  ⟨.mov (.tmp 6), (some 7), none, [1], none⟩,
  ⟨.mov (.tmp 1), (some 8), (some (7, false)), [2], none⟩,
  ⟨.bin .geq (.tmp 8) (.con (.v (.int .i64 1099511627776))), (some 9), (some (7, false)), [3, 2], none⟩,
  ⟨.pick (.tmp 7) (.con (.v (.bool true))) (.tmp 9), (some 10), none, [2, 4], none⟩,
  ⟨.mov (.tmp 10), (some 11), none, [5, 2], none⟩,
  ⟨.mov (.tmp 0), (some 12), (some (11, false)), [6], none⟩,
  ⟨.mov (.tmp 1), (some 13), (some (11, false)), [6], none⟩,
  ⟨.bin .add (.tmp 12) (.tmp 13), (some 14), (some (11, false)), [7, 8, 6], none⟩,
  ⟨.bin .geq (.tmp 14) (.con (.v (.int .i64 1099511627776))), (some 15), (some (11, false)), [9, 6], none⟩,
  ⟨.pick (.tmp 11) (.con (.v (.bool true))) (.tmp 15), (some 16), none, [6, 10], none⟩]
def d36r2 : List RO := [
  ⟨.mov (.con (.v (.int .i64 1099511627776))), (some 4), none, [], none⟩]
def d36r3 : List RO := [
  ⟨.mov (.tmp 0), (some 17), none, [], none⟩,
  ⟨.mov (.tmp 1), (some 18), none, [], none⟩,
  ⟨.bin .add (.tmp 17) (.tmp 18), (some 19), none, [0, 1], none⟩,
  ⟨.mov (.tmp 19), (some 4), none, [2, 0, 1, 2], none⟩]
def d36 : DC := (.seq (.region false d36r0)
  (.seq (.seq (.region false d36r1)
  (.cond (.tmp 16) (.seq (.region false d36r2)
  .ret)
  .skip))
  (.seq (.region false d36r3)
  .ret)))
def d36res : List DRes := [.slot 4]
theorem c36 [Laid] : CodeOf Tryd.prog 28 20 d36 d36res := ⟨Tryd.f28, by kernel_rfl, by kernel_rfl, by kernel_rfl, by kernel_rfl, by kernel_rfl⟩
-- emendate/emendatelaw37.fair
def d11r0 : List RO := [
  ⟨.box (.tmp 0), (some 2), none, [], none⟩,
  ⟨.mov (.con (.v (.bool false))), (some 4), none, [], none⟩]
def d11r1 : List RO := [
  ⟨.load 3 true (.tmp 2), (some 5), none, [], none⟩,
  ⟨.mov (.tmp 1), (some 6), none, [], none⟩,
  ⟨.call 19 [(.tmp 5), (.tmp 6), (.con (.v (.int .i64 5)))], (some 7), none, [0, 1], none⟩,
  ⟨.mov (.tmp 7), (some 8), none, [2, 2], none⟩,
  ⟨.load 3 true (.tmp 2), (some 9), (some (8, true)), [3], none⟩,
  ⟨.addOff 1 (.tmp 2), (some 10), (some (8, true)), [3], none⟩,
  ⟨.load 1 false (.tmp 10), (some 11), (some (8, true)), [5, 3], none⟩,
  ⟨.len (.tmp 11), (some 12), (some (8, true)), [6, 3], none⟩,
  ⟨.call 20 [(.tmp 9), (.tmp 12)], (some 13), (some (8, true)), [4, 7, 3, 3], none⟩,
  ⟨.pick (.tmp 8) (.tmp 13) (.con (.v (.bool false))), (some 14), none, [3, 8], none⟩,
  ⟨.mov (.tmp 14), (some 4), none, [9, 8, 0, 1, 2, 3, 4, 5, 6, 7, 8, 9], none⟩]
def d11 : DC := (.seq (.region false d11r0)
  (.seq (.region false d11r1)
  .ret))
def d11res : List DRes := [.slot 4]
theorem c11 [Laid] : CodeOf Tryd.prog 5 15 d11 d11res := ⟨Tryd.f5, by kernel_rfl, by kernel_rfl, by kernel_rfl, by kernel_rfl, by kernel_rfl⟩

end Go.Proofs
