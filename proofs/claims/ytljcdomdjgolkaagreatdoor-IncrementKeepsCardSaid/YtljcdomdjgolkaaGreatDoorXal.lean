import Derived.Test.YtljcdomdjgolkaaGreatDoorXai
import Derived.KernelRfl
import Derived.Test.YtljcdomdjgolkaaGreatDoorXah
set_option maxRecDepth 100000

namespace Go.Proofs
namespace Inc
open Go.DM

-- emendate/emendateref43.Keep
def d39r0 : List RO := [
  ⟨.box (.tmp 0), (some 3), none, [], none⟩,
  ⟨.box (.tmp 1), (some 4), none, [], none⟩,
  ⟨.alloc [(.v (.int .i64 0)), (.v (.int .i64 0)), (.v (.int .i64 0))], (some 6), none, [], none⟩,
  ⟨.mov (.con (.v (.bool false))), (some 7), none, [], none⟩]
def d39r1 : List RO := [
  ⟨.addOff 0 (.tmp 3), (some 10), none, [], none⟩,
  ⟨.load 1 false (.tmp 10), (some 11), none, [0], none⟩,
  ⟨.bin .lss (.tmp 11) (.con (.v (.int .i64 0))), (some 12), none, [1], none⟩,
  ⟨.mov (.tmp 12), (some 13), none, [2], none⟩,
  ⟨.addOff 1 (.tmp 3), (some 14), (some (13, false)), [3], none⟩,
  ⟨.load 1 false (.tmp 14), (some 15), (some (13, false)), [4, 3], none⟩,
  ⟨.bin .lss (.tmp 15) (.con (.v (.int .i64 0))), (some 16), (some (13, false)), [5, 3], none⟩,
  ⟨.pick (.tmp 13) (.con (.v (.bool true))) (.tmp 16), (some 17), none, [3, 6], none⟩,
  ⟨.mov (.tmp 17), (some 18), none, [7, 3], none⟩,
  ⟨.addOff 2 (.tmp 3), (some 19), (some (18, false)), [8], none⟩,
  ⟨.load 1 false (.tmp 19), (some 20), (some (18, false)), [9, 8], none⟩,
  ⟨.addOff 1 (.tmp 3), (some 21), (some (18, false)), [8], none⟩,
  ⟨.load 1 false (.tmp 21), (some 22), (some (18, false)), [11, 8], none⟩,
  ⟨.bin .lss (.tmp 20) (.tmp 22), (some 23), (some (18, false)), [10, 12, 8], none⟩,
  ⟨.pick (.tmp 18) (.con (.v (.bool true))) (.tmp 23), (some 24), none, [8, 13], none⟩,
  ⟨.mov (.tmp 24), (some 25), none, [14, 8], none⟩,
  ⟨.addOff 2 (.tmp 3), (some 26), (some (25, false)), [15], none⟩,
  ⟨.load 1 false (.tmp 26), (some 27), (some (25, false)), [16, 15], none⟩,
  ⟨.mov (.tmp 2), (some 28), (some (25, false)), [15], none⟩,
  ⟨.bin .geq (.tmp 27) (.tmp 28), (some 29), (some (25, false)), [17, 18, 15], none⟩,
  ⟨.pick (.tmp 25) (.con (.v (.bool true))) (.tmp 29), (some 30), none, [15, 19], none⟩,
  ⟨.mov (.tmp 30), (some 31), none, [20, 15], none⟩,
  ⟨.addOff 0 (.tmp 4), (some 32), (some (31, false)), [21], none⟩,
  ⟨.load 1 false (.tmp 32), (some 33), (some (31, false)), [22, 21], none⟩,
  ⟨.bin .lss (.tmp 33) (.con (.v (.int .i64 0))), (some 34), (some (31, false)), [23, 21], none⟩,
  ⟨.pick (.tmp 31) (.con (.v (.bool true))) (.tmp 34), (some 35), none, [21, 24], none⟩,
  ⟨.mov (.tmp 35), (some 36), none, [25, 21], none⟩,
  ⟨.addOff 1 (.tmp 4), (some 37), (some (36, false)), [26], none⟩,
  ⟨.load 1 false (.tmp 37), (some 38), (some (36, false)), [27, 26], none⟩,
  ⟨.bin .lss (.tmp 38) (.con (.v (.int .i64 0))), (some 39), (some (36, false)), [28, 26], none⟩,
  ⟨.pick (.tmp 36) (.con (.v (.bool true))) (.tmp 39), (some 40), none, [26, 29], none⟩,
  ⟨.mov (.tmp 40), (some 41), none, [30, 26], none⟩,
  ⟨.addOff 2 (.tmp 4), (some 42), (some (41, false)), [31], none⟩,
  ⟨.load 1 false (.tmp 42), (some 43), (some (41, false)), [32, 31], none⟩,
  ⟨.bin .lss (.tmp 43) (.con (.v (.int .i64 0))), (some 44), (some (41, false)), [33, 31], none⟩,
  ⟨.pick (.tmp 41) (.con (.v (.bool true))) (.tmp 44), (some 45), none, [31, 34], none⟩,
  ⟨.mov (.tmp 45), (some 46), none, [35, 31], none⟩,
  ⟨.addOff 2 (.tmp 4), (some 47), (some (46, false)), [36], none⟩,
  ⟨.load 1 false (.tmp 47), (some 48), (some (46, false)), [37, 36], none⟩,
  ⟨.bin .gtr (.tmp 48) (.con (.v (.int .i64 60))), (some 49), (some (46, false)), [38, 36], none⟩,
  ⟨.pick (.tmp 46) (.con (.v (.bool true))) (.tmp 49), (some 50), none, [36, 39], none⟩,
  ⟨.mov (.tmp 50), (some 51), none, [40, 36], none⟩,
  ⟨.addOff 0 (.tmp 4), (some 52), (some (51, false)), [41], none⟩,
  ⟨.load 1 false (.tmp 52), (some 53), (some (51, false)), [42, 41], none⟩,
  ⟨.mov (.tmp 2), (some 54), (some (51, false)), [41], none⟩,
  ⟨.bin .sub (.tmp 54) (.con (.v (.int .i64 1))), (some 55), (some (51, false)), [44, 41], none⟩,
  ⟨.bin .quo (.tmp 55) (.con (.v (.int .i64 2))), (some 56), (some (51, false)), [45, 41], none⟩,
  ⟨.bin .gtr (.tmp 53) (.tmp 56), (some 57), (some (51, false)), [43, 46, 41], none⟩,
  ⟨.pick (.tmp 51) (.con (.v (.bool true))) (.tmp 57), (some 58), none, [41, 47], none⟩,
  ⟨.mov (.tmp 58), (some 59), none, [48, 41], none⟩,
  ⟨.addOff 1 (.tmp 4), (some 60), (some (59, false)), [49], none⟩,
  ⟨.load 1 false (.tmp 60), (some 61), (some (59, false)), [50, 49], none⟩,
  ⟨.mov (.tmp 2), (some 62), (some (59, false)), [49], none⟩,
  ⟨.bin .sub (.tmp 62) (.con (.v (.int .i64 1))), (some 63), (some (59, false)), [52, 49], none⟩,
  ⟨.bin .quo (.tmp 63) (.con (.v (.int .i64 2))), (some 64), (some (59, false)), [53, 49], none⟩,
  ⟨.addOff 0 (.tmp 4), (some 65), (some (59, false)), [49], none⟩,
  ⟨.load 1 false (.tmp 65), (some 66), (some (59, false)), [55, 49], none⟩,
  ⟨.bin .sub (.tmp 64) (.tmp 66), (some 67), (some (59, false)), [54, 56, 49], none⟩,
  ⟨.bin .gtr (.tmp 61) (.tmp 67), (some 68), (some (59, false)), [51, 57, 49], none⟩,
  ⟨.pick (.tmp 59) (.con (.v (.bool true))) (.tmp 68), (some 69), none, [49, 58], none⟩]
def d39r2 : List RO := [
  ⟨.build [(.v (.int .i64 0)), (.v (.int .i64 0)), (.v (.int .i64 0))] [], (some 70), none, [], none⟩,
  ⟨.store 3 (.tmp 6) (.tmp 70), none, none, [0, 0], none⟩,
  ⟨.mov (.con (.v (.bool false))), (some 7), none, [1, 0, 1], none⟩]
def d39r3 : List RO := [
  ⟨.addOff 2 (.tmp 3), (some 71), none, [], none⟩,
  ⟨.load 1 false (.tmp 71), (some 72), none, [0], none⟩,
  ⟨.bin .quo (.tmp 72) (.con (.v (.int .i64 2))), (some 73), none, [1], none⟩,
  ⟨.mov (.tmp 73), (some 8), none, [2, 0, 1, 2], none⟩]
def d39r4 : List RO := [
  ⟨.addOff 2 (.tmp 3), (some 74), none, [], none⟩,
  ⟨.load 1 false (.tmp 74), (some 75), none, [0], none⟩,
  ⟨.bin .rem (.tmp 75) (.con (.v (.int .i64 2))), (some 76), none, [1], none⟩,
  ⟨.bin .eql (.tmp 76) (.con (.v (.int .i64 1))), (some 77), none, [2], none⟩]
def d39r5 : List RO := [
  ⟨.addOff 2 (.tmp 3), (some 78), none, [], none⟩,
  ⟨.load 1 false (.tmp 78), (some 79), none, [0], none⟩,
  ⟨.bin .sub (.tmp 79) (.con (.v (.int .i64 1))), (some 80), none, [1], none⟩,
  ⟨.bin .quo (.tmp 80) (.con (.v (.int .i64 2))), (some 81), none, [2], none⟩,
  ⟨.bin .add (.tmp 81) (.con (.v (.int .i64 2))), (some 82), none, [3], none⟩,
  ⟨.mov (.tmp 82), (some 8), none, [4, 0, 1, 2, 3, 4], none⟩]
def d39r6 : List RO := [
  ⟨.mov (.tmp 8), (some 83), none, [], none⟩,
  ⟨.addOff 0 (.tmp 4), (some 84), none, [], none⟩,
  ⟨.load 1 false (.tmp 84), (some 85), none, [1], none⟩,
  ⟨.bin .leq (.tmp 83) (.tmp 85), (some 86), none, [0, 2], none⟩]
def d39r7 : List RO := [
  ⟨.load 3 true (.tmp 3), (some 87), none, [], none⟩,
  ⟨.store 3 (.tmp 6) (.tmp 87), none, none, [0, 0], none⟩,
  ⟨.mov (.con (.v (.bool true))), (some 7), none, [1, 0, 1], none⟩]
def d39r8 : List RO := [
  ⟨.addOff 1 (.tmp 3), (some 88), none, [], none⟩,
  ⟨.load 1 false (.tmp 88), (some 89), none, [0], none⟩,
  ⟨.bin .quo (.tmp 89) (.con (.v (.int .i64 2))), (some 90), none, [1], none⟩,
  ⟨.addOff 0 (.tmp 4), (some 91), none, [], none⟩,
  ⟨.load 1 false (.tmp 91), (some 92), none, [3], none⟩,
  ⟨.addOff 1 (.tmp 4), (some 93), none, [], none⟩,
  ⟨.load 1 false (.tmp 93), (some 94), none, [5], none⟩,
  ⟨.bin .add (.tmp 92) (.tmp 94), (some 95), none, [4, 6], none⟩,
  ⟨.bin .geq (.tmp 90) (.tmp 95), (some 96), none, [2, 7], none⟩]
def d39r9 : List RO := [
  ⟨.addOff 2 (.tmp 4), (some 97), none, [], none⟩,
  ⟨.load 1 false (.tmp 97), (some 98), none, [0], none⟩,
  ⟨.addOff 1 (.tmp 4), (some 99), none, [], none⟩,
  ⟨.load 1 false (.tmp 99), (some 100), none, [2], none⟩,
  ⟨.bin .sub (.tmp 98) (.tmp 100), (some 101), none, [1, 3], none⟩,
  ⟨.bin .mul (.con (.v (.int .i64 2))) (.tmp 101), (some 102), none, [4], none⟩,
  ⟨.mov (.tmp 102), (some 9), none, [5, 0, 1, 2, 3, 4, 5], none⟩]
def d39r10 : List RO := [
  ⟨.addOff 0 (.tmp 3), (some 103), none, [], none⟩,
  ⟨.load 1 false (.tmp 103), (some 104), none, [0], none⟩,
  ⟨.addOff 1 (.tmp 3), (some 105), none, [], none⟩,
  ⟨.load 1 false (.tmp 105), (some 106), none, [2], none⟩,
  ⟨.mov (.tmp 9), (some 107), none, [], none⟩,
  ⟨.bin .add (.tmp 106) (.tmp 107), (some 108), none, [3, 4], none⟩,
  ⟨.addOff 2 (.tmp 3), (some 109), none, [], none⟩,
  ⟨.load 1 false (.tmp 109), (some 110), none, [6], none⟩,
  ⟨.mov (.tmp 9), (some 111), none, [], none⟩,
  ⟨.bin .add (.tmp 110) (.tmp 111), (some 112), none, [7, 8], none⟩,
  ⟨.build [(.v (.int .i64 0)), (.v (.int .i64 0)), (.v (.int .i64 0))] [(0, 1, (.tmp 104)), (1, 1, (.tmp 108)), (2, 1, (.tmp 112))], (some 113), none, [1, 5, 9], none⟩,
  ⟨.store 3 (.tmp 6) (.tmp 113), none, none, [10, 0, 1, 2, 3, 4, 5, 6, 7, 8, 9, 10], none⟩,
  ⟨.mov (.con (.v (.bool true))), (some 7), none, [11, 0, 1, 2, 3, 4, 5, 6, 7, 8, 9, 10, 11], none⟩]
def d39r11 : List RO := [
  ⟨.build [(.v (.int .i64 0)), (.v (.int .i64 0)), (.v (.int .i64 0))] [], (some 114), none, [], none⟩,
  ⟨.store 3 (.tmp 6) (.tmp 114), none, none, [0, 0], none⟩,
  ⟨.mov (.con (.v (.bool false))), (some 7), none, [1, 0, 1], none⟩]
def d39 : DC := (.seq (.region false d39r0)
  (.seq (.seq (.region false d39r1)
  (.cond (.tmp 69) (.seq (.region false d39r2)
  .ret)
  .skip))
  (.seq (.region false d39r3)
  (.seq (.seq (.region false d39r4)
  (.cond (.tmp 77) (.region false d39r5)
  .skip))
  (.seq (.seq (.region false d39r6)
  (.cond (.tmp 86) (.seq (.region false d39r7)
  .ret)
  .skip))
  (.seq (.seq (.region false d39r8)
  (.cond (.tmp 96) (.seq (.region false d39r9)
  (.seq (.region false d39r10)
  .ret))
  .skip))
  (.seq (.region false d39r11)
  .ret)))))))
def d39res : List DRes := [.cell 6 3 true, .slot 7]
theorem c39 [Laid] : CodeOf Tryz.prog 39 115 d39 d39res := ⟨Tryz.f39, by kernel_rfl, by kernel_rfl, by kernel_rfl, by kernel_rfl, by kernel_rfl⟩
-- emendate/emendateref43.Update
-- emendate/emendateref43.Replace
def d38r0 : List RO := [
  ⟨.box (.tmp 0), (some 4), none, [], none⟩,
  ⟨.alloc [.nil0, .nil0, (.v (.int .i64 0))], (some 8), none, [], none⟩]
def d38r1 : List RO := [
  ⟨.load 3 true (.tmp 4), (some 10), none, [], none⟩,
  ⟨.alloc [.nil0, .nil0, (.v (.int .i64 0))], (some 9), none, [], none⟩,
  ⟨.store 3 (.tmp 9) (.tmp 10), none, none, [1, 0, 0, 1], none⟩]
def d38r2 : List RO := [
  ⟨.bslice 0 3 [] [], (some 11), none, [], none⟩,
  ⟨.addOff 0 (.tmp 4), (some 12), none, [], none⟩,
  ⟨.load 1 false (.tmp 12), (some 13), none, [1], none⟩,
  ⟨.mov (.tmp 1), (some 14), none, [], none⟩,
  ⟨.slice 3 (.tmp 13) none (some (.tmp 14)), (some 15), none, [2, 3], none⟩,
  ⟨.append 70 3 40 (.tmp 11) (.tmp 15), (some 16), none, [0, 4], none⟩,
  ⟨.mov (.tmp 3), (some 17), none, [], none⟩,
  ⟨.append 70 3 40 (.tmp 16) (.tmp 17), (some 18), none, [5, 6, 5], none⟩,
  ⟨.addOff 0 (.tmp 4), (some 19), none, [], none⟩,
  ⟨.load 1 false (.tmp 19), (some 20), none, [8], none⟩,
  ⟨.mov (.tmp 1), (some 21), none, [], none⟩,
  ⟨.mov (.tmp 2), (some 22), none, [], none⟩,
  ⟨.bin .add (.tmp 21) (.tmp 22), (some 23), none, [10, 11], none⟩,
  ⟨.slice 3 (.tmp 20) (some (.tmp 23)) none, (some 24), none, [9, 12], none⟩,
  ⟨.append 70 3 40 (.tmp 18) (.tmp 24), (some 25), none, [7, 13, 7], none⟩,
  ⟨.addOff 0 (.tmp 9), (some 26), none, [0, 1, 2, 3, 4, 5, 6, 7, 8, 9, 10, 11, 12, 13, 14], none⟩,
  ⟨.store 1 (.tmp 26) (.tmp 25), none, none, [15, 14, 14, 0, 1, 2, 3, 4, 5, 6, 7, 8, 9, 10, 11, 12, 13, 14], none⟩]
def d38r3 : List RO := [
  ⟨.load 3 true (.tmp 9), (some 27), none, [], none⟩,
  ⟨.store 3 (.tmp 8) (.tmp 27), none, none, [0, 0], none⟩]
def d38 : DC := (.seq (.region false d38r0)
  (.seq (.region false d38r1)
  (.seq (.regionT d38r2)
  (.seq (.region false d38r3)
  .ret))))
def d38res : List DRes := [.cell 8 3 true]
theorem c38 [Laid] : CodeOf Tryz.prog 38 28 d38 d38res := ⟨Tryz.f38, by kernel_rfl, by kernel_rfl, by kernel_rfl, by kernel_rfl, by kernel_rfl⟩
-- emendate/emendatelaw43.after
def d14r0 : List RO := [
  ⟨.box (.tmp 0), (some 1), none, [], none⟩,
  ⟨.alloc [.nil0, .nil0, (.v (.int .i64 0))], (some 2), none, [], none⟩]
def d14r1 : List RO := [
  ⟨.addOff 4 (.tmp 1), (some 3), none, [], none⟩,
  ⟨.load 3 true (.tmp 3), (some 4), none, [0], none⟩,
  ⟨.addOff 7 (.tmp 1), (some 5), none, [], none⟩,
  ⟨.load 1 false (.tmp 5), (some 6), none, [2], none⟩,
  ⟨.addOff 8 (.tmp 1), (some 7), none, [], none⟩,
  ⟨.load 1 false (.tmp 7), (some 8), none, [4], none⟩,
  ⟨.addOff 9 (.tmp 1), (some 9), none, [], none⟩,
  ⟨.load 1 false (.tmp 9), (some 10), none, [6], none⟩,
  ⟨.call 38 [(.tmp 4), (.tmp 6), (.tmp 8), (.tmp 10)], (some 11), none, [1, 3, 5, 7], none⟩,
  ⟨.store 3 (.tmp 2) (.tmp 11), none, none, [8, 8, 0, 1, 2, 3, 4, 5, 6, 7, 8], none⟩]
def d14 : DC := (.seq (.region false d14r0)
  (.seq (.region false d14r1)
  .ret))
def d14res : List DRes := [.cell 2 3 true]
theorem c14 [Laid] : CodeOf Tryz.prog 14 12 d14 d14res := ⟨Tryz.f14, by kernel_rfl, by kernel_rfl, by kernel_rfl, by kernel_rfl, by kernel_rfl⟩
-- emendate/emendatelaw43.change
def d15r0 : List RO := [
  ⟨.box (.tmp 0), (some 1), none, [], none⟩,
  ⟨.alloc [(.v (.int .i64 0)), (.v (.int .i64 0)), (.v (.int .i64 0))], (some 2), none, [], none⟩]
def d15r1 : List RO := [
  ⟨.addOff 7 (.tmp 1), (some 3), none, [], none⟩,
  ⟨.load 1 false (.tmp 3), (some 4), none, [0], none⟩,
  ⟨.addOff 8 (.tmp 1), (some 5), none, [], none⟩,
  ⟨.load 1 false (.tmp 5), (some 6), none, [2], none⟩,
  ⟨.addOff 9 (.tmp 1), (some 7), none, [], none⟩,
  ⟨.load 1 false (.tmp 7), (some 8), none, [4], none⟩,
  ⟨.len (.tmp 8), (some 9), none, [5], none⟩,
  ⟨.build [(.v (.int .i64 0)), (.v (.int .i64 0)), (.v (.int .i64 0))] [(0, 1, (.tmp 4)), (1, 1, (.tmp 6)), (2, 1, (.tmp 9))], (some 10), none, [1, 3, 6], none⟩,
  ⟨.store 3 (.tmp 2) (.tmp 10), none, none, [7, 0, 1, 2, 3, 4, 5, 6, 7], none⟩]
def d15 : DC := (.seq (.region false d15r0)
  (.seq (.region false d15r1)
  .ret))
def d15res : List DRes := [.cell 2 3 true]
theorem c15 [Laid] : CodeOf Tryz.prog 15 11 d15 d15res := ⟨Tryz.f15, by kernel_rfl, by kernel_rfl, by kernel_rfl, by kernel_rfl, by kernel_rfl⟩
-- emendate/emendatelaw43.may
def d9r0 : List RO := [
  ⟨.box (.tmp 0), (some 1), none, [], none⟩,
  ⟨.mov (.con (.v (.bool false))), (some 2), none, [], none⟩]
def d9r1 : List RO := [
  ⟨.addOff 0 (.tmp 1), (some 3), none, [], none⟩,
  ⟨.addOff 3 (.tmp 3), (some 4), none, [0], none⟩,
  ⟨.load 1 false (.tmp 4), (some 5), none, [1], none⟩,
  ⟨.len (.tmp 5), (some 6), none, [2], none⟩,
  ⟨.bin .gtr (.tmp 6) (.con (.v (.int .i64 14))), (some 7), none, [3], none⟩,
  ⟨.mov (.tmp 7), (some 8), none, [4], none⟩,
  ⟨.addOff 0 (.tmp 1), (some 9), (some (8, false)), [5], none⟩,
  ⟨.addOff 1 (.tmp 9), (some 10), (some (8, false)), [6, 5], none⟩,
  ⟨.load 1 false (.tmp 10), (some 11), (some (8, false)), [7, 5], none⟩,
  ⟨.bin .gtr (.tmp 11) (.con (.v (.int .i64 8))), (some 12), (some (8, false)), [8, 5], none⟩,
  ⟨.pick (.tmp 8) (.con (.v (.bool true))) (.tmp 12), (some 13), none, [5, 9], none⟩,
  ⟨.mov (.tmp 13), (some 14), none, [10, 5], none⟩,
  ⟨.addOff 0 (.tmp 1), (some 15), (some (14, false)), [11], none⟩,
  ⟨.addOff 0 (.tmp 15), (some 16), (some (14, false)), [12, 11], none⟩,
  ⟨.load 1 false (.tmp 16), (some 17), (some (14, false)), [13, 11], none⟩,
  ⟨.bin .gtr (.tmp 17) (.con (.v (.int .i64 5))), (some 18), (some (14, false)), [14, 11], none⟩,
  ⟨.pick (.tmp 14) (.con (.v (.bool true))) (.tmp 18), (some 19), none, [11, 15], none⟩,
  ⟨.mov (.tmp 19), (some 20), none, [16, 11], none⟩,
  ⟨.addOff 0 (.tmp 1), (some 21), (some (20, false)), [17], none⟩,
  ⟨.load 4 true (.tmp 21), (some 22), (some (20, false)), [18, 17], none⟩,
  ⟨.call 20 [(.tmp 22)], (some 23), (some (20, false)), [19, 17, 17], none⟩,
  ⟨.un .not (.tmp 23), (some 24), (some (20, false)), [20, 17], none⟩,
  ⟨.pick (.tmp 20) (.con (.v (.bool true))) (.tmp 24), (some 25), none, [17, 21], none⟩,
  ⟨.mov (.tmp 25), (some 26), none, [22, 20], none⟩,
  ⟨.addOff 4 (.tmp 1), (some 27), (some (26, false)), [23], none⟩,
  ⟨.addOff 0 (.tmp 27), (some 28), (some (26, false)), [24, 23], none⟩,
  ⟨.load 1 false (.tmp 28), (some 29), (some (26, false)), [25, 23], none⟩,
  ⟨.len (.tmp 29), (some 30), (some (26, false)), [26, 23], none⟩,
  ⟨.bin .gtr (.tmp 30) (.con (.v (.int .i64 4))), (some 31), (some (26, false)), [27, 23], none⟩,
  ⟨.pick (.tmp 26) (.con (.v (.bool true))) (.tmp 31), (some 32), none, [23, 28], none⟩,
  ⟨.mov (.tmp 32), (some 33), none, [29, 23], none⟩,
  ⟨.addOff 9 (.tmp 1), (some 34), (some (33, false)), [30], none⟩,
  ⟨.load 1 false (.tmp 34), (some 35), (some (33, false)), [31, 30], none⟩,
  ⟨.len (.tmp 35), (some 36), (some (33, false)), [32, 30], none⟩,
  ⟨.bin .gtr (.tmp 36) (.con (.v (.int .i64 3))), (some 37), (some (33, false)), [33, 30], none⟩,
  ⟨.pick (.tmp 33) (.con (.v (.bool true))) (.tmp 37), (some 38), none, [30, 34], none⟩,
  ⟨.mov (.tmp 38), (some 39), none, [35, 30], none⟩,
  ⟨.addOff 4 (.tmp 1), (some 40), (some (39, false)), [36], none⟩,
  ⟨.load 3 true (.tmp 40), (some 41), (some (39, false)), [37, 36], none⟩,
  ⟨.addOff 0 (.tmp 1), (some 42), (some (39, false)), [36], none⟩,
  ⟨.addOff 0 (.tmp 42), (some 43), (some (39, false)), [39, 36], none⟩,
  ⟨.load 1 false (.tmp 43), (some 44), (some (39, false)), [40, 36], none⟩,
  ⟨.call 21 [(.tmp 41), (.tmp 44)], (some 45), (some (39, false)), [38, 41, 36, 36], none⟩,
  ⟨.un .not (.tmp 45), (some 46), (some (39, false)), [42, 36], none⟩,
  ⟨.pick (.tmp 39) (.con (.v (.bool true))) (.tmp 46), (some 47), none, [36, 43], none⟩,
  ⟨.mov (.tmp 47), (some 48), none, [44, 42], none⟩,
  ⟨.addOff 7 (.tmp 1), (some 49), (some (48, false)), [45], none⟩,
  ⟨.load 1 false (.tmp 49), (some 50), (some (48, false)), [46, 45], none⟩,
  ⟨.bin .lss (.tmp 50) (.con (.v (.int .i64 0))), (some 51), (some (48, false)), [47, 45], none⟩,
  ⟨.pick (.tmp 48) (.con (.v (.bool true))) (.tmp 51), (some 52), none, [45, 48], none⟩,
  ⟨.mov (.tmp 52), (some 53), none, [49, 45], none⟩,
  ⟨.addOff 8 (.tmp 1), (some 54), (some (53, false)), [50], none⟩,
  ⟨.load 1 false (.tmp 54), (some 55), (some (53, false)), [51, 50], none⟩,
  ⟨.bin .lss (.tmp 55) (.con (.v (.int .i64 0))), (some 56), (some (53, false)), [52, 50], none⟩,
  ⟨.pick (.tmp 53) (.con (.v (.bool true))) (.tmp 56), (some 57), none, [50, 53], none⟩,
  ⟨.mov (.tmp 57), (some 58), none, [54, 50], none⟩,
  ⟨.addOff 7 (.tmp 1), (some 59), (some (58, false)), [55], none⟩,
  ⟨.load 1 false (.tmp 59), (some 60), (some (58, false)), [56, 55], none⟩,
  ⟨.addOff 4 (.tmp 1), (some 61), (some (58, false)), [55], none⟩,
  ⟨.addOff 0 (.tmp 61), (some 62), (some (58, false)), [58, 55], none⟩,
  ⟨.load 1 false (.tmp 62), (some 63), (some (58, false)), [59, 55], none⟩,
  ⟨.len (.tmp 63), (some 64), (some (58, false)), [60, 55], none⟩,
  ⟨.bin .gtr (.tmp 60) (.tmp 64), (some 65), (some (58, false)), [57, 61, 55], none⟩,
  ⟨.pick (.tmp 58) (.con (.v (.bool true))) (.tmp 65), (some 66), none, [55, 62], none⟩,
  ⟨.mov (.tmp 66), (some 67), none, [63, 55], none⟩,
  ⟨.addOff 8 (.tmp 1), (some 68), (some (67, false)), [64], none⟩,
  ⟨.load 1 false (.tmp 68), (some 69), (some (67, false)), [65, 64], none⟩,
  ⟨.addOff 4 (.tmp 1), (some 70), (some (67, false)), [64], none⟩,
  ⟨.addOff 0 (.tmp 70), (some 71), (some (67, false)), [67, 64], none⟩,
  ⟨.load 1 false (.tmp 71), (some 72), (some (67, false)), [68, 64], none⟩,
  ⟨.len (.tmp 72), (some 73), (some (67, false)), [69, 64], none⟩,
  ⟨.addOff 7 (.tmp 1), (some 74), (some (67, false)), [64], none⟩,
  ⟨.load 1 false (.tmp 74), (some 75), (some (67, false)), [71, 64], none⟩,
  ⟨.bin .sub (.tmp 73) (.tmp 75), (some 76), (some (67, false)), [70, 72, 64], none⟩,
  ⟨.bin .gtr (.tmp 69) (.tmp 76), (some 77), (some (67, false)), [66, 73, 64], none⟩,
  ⟨.pick (.tmp 67) (.con (.v (.bool true))) (.tmp 77), (some 78), none, [64, 74], none⟩]
def d9r2 : List RO := [
  ⟨.mov (.con (.v (.bool false))), (some 2), none, [], none⟩]
def d9r3 : List RO := [
  ⟨.load 10 true (.tmp 1), (some 79), none, [], none⟩,
  ⟨.call 14 [(.tmp 79)], (some 80), none, [0], none⟩,
  ⟨.addOff 0 (.tmp 1), (some 81), none, [], none⟩,
  ⟨.addOff 0 (.tmp 81), (some 82), none, [2], none⟩,
  ⟨.load 1 false (.tmp 82), (some 83), none, [3], none⟩,
  ⟨.call 21 [(.tmp 80), (.tmp 83)], (some 84), none, [1, 4, 1], none⟩,
  ⟨.mov (.tmp 84), (some 85), none, [5, 5], none⟩,
  ⟨.addOff 0 (.tmp 1), (some 86), (some (85, true)), [6], none⟩,
  ⟨.load 4 true (.tmp 86), (some 87), (some (85, true)), [7, 6], none⟩,
  ⟨.addOff 4 (.tmp 1), (some 88), (some (85, true)), [6], none⟩,
  ⟨.addOff 1 (.tmp 88), (some 89), (some (85, true)), [9, 6], none⟩,
  ⟨.load 1 false (.tmp 89), (some 90), (some (85, true)), [10, 6], none⟩,
  ⟨.call 22 [(.tmp 87), (.tmp 90)], (some 91), (some (85, true)), [8, 11, 6, 6], none⟩,
  ⟨.pick (.tmp 85) (.tmp 91) (.con (.v (.bool false))), (some 92), none, [6, 12], none⟩,
  ⟨.mov (.tmp 92), (some 2), none, [13, 12, 0, 1, 2, 3, 4, 5, 6, 7, 8, 9, 10, 11, 12, 13], none⟩]
def d9 : DC := (.seq (.region false d9r0)
  (.seq (.seq (.region false d9r1)
  (.cond (.tmp 78) (.seq (.region false d9r2)
  .ret)
  .skip))
  (.seq (.region true d9r3)
  .ret)))
def d9res : List DRes := [.slot 2]
theorem c9 [Laid] : CodeOf Tryz.prog 9 93 d9 d9res := ⟨Tryz.f9, by kernel_rfl, by kernel_rfl, by kernel_rfl, by kernel_rfl, by kernel_rfl⟩
-- emendate/emendatelaw43.awake
def d10r0 : List RO := [
  ⟨.mov (.con (.v (.bool false))), (some 0), none, [], none⟩]
def d10r1 : List RO := [
  ⟨.build [(.v (.int .i64 0)), (.v (.int .i64 0)), (.v (.int .i64 0))] [(0, 1, (.con (.v (.int .i64 1)))), (1, 1, (.con (.v (.int .i64 1)))), (2, 1, (.con (.v (.int .i64 1))))], (some 15), none, [], none⟩,
  ⟨.alloc [(.v (.int .i64 0)), (.v (.int .i64 0)), (.v (.int .i64 0))], (some 1), none, [], none⟩,
  ⟨.store 3 (.tmp 1) (.tmp 15), none, none, [1, 0, 0, 1], none⟩]
def d10r2 : List RO := [
  ⟨.build [(.v (.int .i64 0)), (.v (.int .i64 0)), (.v (.int .i64 0))] [(0, 1, (.con (.v (.int .i64 2)))), (1, 1, (.con (.v (.int .i64 0)))), (2, 1, (.con (.v (.int .i64 2))))], (some 17), none, [], none⟩,
  ⟨.load 3 true (.tmp 1), (some 18), none, [], none⟩,
  ⟨.call 18 [(.tmp 17), (.tmp 18), (.con (.v (.int .i64 7)))], (some 19), none, [0, 1], none⟩,
  ⟨.mov (.tmp 19), (some 16), none, [2], none⟩,
  ⟨.extract 0 (.tmp 16), (some 20), none, [3], none⟩,
  ⟨.extract 1 (.tmp 16), (some 21), none, [3], none⟩,
  ⟨.alloc [(.v (.int .i64 0)), (.v (.int .i64 0)), (.v (.int .i64 0))], (some 2), none, [], none⟩,
  ⟨.store 3 (.tmp 2) (.tmp 20), none, none, [6, 4, 2, 0, 1, 2, 3, 4, 6], none⟩,
  ⟨.mov (.tmp 21), (some 3), none, [5, 7, 0, 1, 2, 3, 4, 5, 6, 7], none⟩]
def d10r3 : List RO := [
  ⟨.build [(.v (.int .i64 0)), (.v (.int .i64 0)), (.v (.int .i64 0))] [(0, 1, (.con (.v (.int .i64 1)))), (1, 1, (.con (.v (.int .i64 4)))), (2, 1, (.con (.v (.int .i64 6))))], (some 23), none, [], none⟩,
  ⟨.load 3 true (.tmp 1), (some 24), none, [], none⟩,
  ⟨.call 18 [(.tmp 23), (.tmp 24), (.con (.v (.int .i64 7)))], (some 25), none, [0, 1], none⟩,
  ⟨.mov (.tmp 25), (some 22), none, [2], none⟩,
  ⟨.extract 0 (.tmp 22), (some 26), none, [3], none⟩,
  ⟨.extract 1 (.tmp 22), (some 27), none, [3], none⟩,
  ⟨.alloc [(.v (.int .i64 0)), (.v (.int .i64 0)), (.v (.int .i64 0))], (some 4), none, [], none⟩,
  ⟨.store 3 (.tmp 4) (.tmp 26), none, none, [6, 4, 2, 0, 1, 2, 3, 4, 6], none⟩,
  ⟨.mov (.tmp 27), (some 5), none, [5, 7, 0, 1, 2, 3, 4, 5, 6, 7], none⟩]
def d10r4 : List RO := [
  ⟨.build [(.v (.int .i64 0)), (.v (.int .i64 0)), (.v (.int .i64 0))] [(1, 1, (.con (.v (.int .i64 2)))), (2, 1, (.con (.v (.int .i64 4))))], (some 29), none, [], none⟩,
  ⟨.load 3 true (.tmp 1), (some 30), none, [], none⟩,
  ⟨.call 18 [(.tmp 29), (.tmp 30), (.con (.v (.int .i64 7)))], (some 31), none, [0, 1], none⟩,
  ⟨.mov (.tmp 31), (some 28), none, [2], none⟩,
  ⟨.extract 0 (.tmp 28), (some 32), none, [3], none⟩,
  ⟨.extract 1 (.tmp 28), (some 33), none, [3], none⟩,
  ⟨.alloc [(.v (.int .i64 0)), (.v (.int .i64 0)), (.v (.int .i64 0))], (some 6), none, [], none⟩,
  ⟨.store 3 (.tmp 6) (.tmp 32), none, none, [6, 4, 2, 0, 1, 2, 3, 4, 6], none⟩,
  ⟨.mov (.tmp 33), (some 7), none, [5, 7, 0, 1, 2, 3, 4, 5, 6, 7], none⟩]
def d10r5 : List RO := [
  ⟨.build [(.v (.int .i64 0)), (.v (.int .i64 0)), (.v (.int .i64 0))] [(1, 1, (.con (.v (.int .i64 0)))), (2, 1, (.con (.v (.int .i64 1))))], (some 35), none, [], none⟩,
  ⟨.load 3 true (.tmp 1), (some 36), none, [], none⟩,
  ⟨.call 18 [(.tmp 35), (.tmp 36), (.con (.v (.int .i64 7)))], (some 37), none, [0, 1], none⟩,
  ⟨.mov (.tmp 37), (some 34), none, [2], none⟩,
  ⟨.extract 0 (.tmp 34), (some 38), none, [3], none⟩,
  ⟨.extract 1 (.tmp 34), (some 39), none, [3], none⟩,
  ⟨.alloc [(.v (.int .i64 0)), (.v (.int .i64 0)), (.v (.int .i64 0))], (some 8), none, [], none⟩,
  ⟨.store 3 (.tmp 8) (.tmp 38), none, none, [6, 4, 2, 0, 1, 2, 3, 4, 6], none⟩,
  ⟨.mov (.tmp 39), (some 9), none, [5, 7, 0, 1, 2, 3, 4, 5, 6, 7], none⟩]
def d10r6 : List RO := [
  ⟨.build [(.v (.int .i64 0)), (.v (.int .i64 0)), (.v (.int .i64 0))] [(1, 1, (.con (.v (.int .i64 4)))), (2, 1, (.con (.v (.int .i64 6))))], (some 41), none, [], none⟩,
  ⟨.build [(.v (.int .i64 0)), (.v (.int .i64 0)), (.v (.int .i64 0))] [(0, 1, (.con (.v (.int .i64 1)))), (2, 1, (.con (.v (.int .i64 2))))], (some 42), none, [], none⟩,
  ⟨.call 18 [(.tmp 41), (.tmp 42), (.con (.v (.int .i64 7)))], (some 43), none, [0, 1], none⟩,
  ⟨.mov (.tmp 43), (some 40), none, [2], none⟩,
  ⟨.extract 0 (.tmp 40), (some 44), none, [3], none⟩,
  ⟨.extract 1 (.tmp 40), (some 45), none, [3], none⟩,
  ⟨.alloc [(.v (.int .i64 0)), (.v (.int .i64 0)), (.v (.int .i64 0))], (some 10), none, [], none⟩,
  ⟨.store 3 (.tmp 10) (.tmp 44), none, none, [6, 4, 2, 0, 1, 2, 3, 4, 6], none⟩,
  ⟨.mov (.tmp 45), (some 11), none, [5, 7, 0, 1, 2, 3, 4, 5, 6, 7], none⟩]
def d10r7 : List RO := [
  ⟨.build [(.v (.int .i64 0)), (.v (.int .i64 0)), (.v (.int .i64 0)), .nil0] [(0, 1, (.con (.v (.int .i64 1)))), (1, 1, (.con (.v (.int .i64 1))))], (some 47), none, [], none⟩,
  ⟨.build [(.v (.int .i64 0)), (.v (.int .i64 0)), .nil0] [], (some 48), none, [], none⟩,
  ⟨.bslice 1 1 [(.v (.int .i64 0))] [(0, 1, (.con (.v (.int .i64 1))))], (some 49), none, [], none⟩,
  ⟨.build [.nil0, .nil0, (.v (.int .i64 0))] [(1, 1, (.tmp 49))], (some 50), none, [2], none⟩,
  ⟨.build [(.v (.int .i64 0)), (.v (.int .i64 0)), (.v (.int .i64 0))] [], (some 51), none, [], none⟩,
  ⟨.call 13 [(.tmp 47), (.tmp 48), (.tmp 50), (.tmp 51)], (some 52), none, [0, 1, 3, 4], none⟩,
  ⟨.mov (.tmp 52), (some 46), none, [5], none⟩,
  ⟨.extract 0 (.tmp 46), (some 53), none, [6], none⟩,
  ⟨.extract 1 (.tmp 46), (some 54), none, [6], none⟩,
  ⟨.extract 2 (.tmp 46), (some 55), none, [6], none⟩,
  ⟨.alloc [(.v (.int .i64 0)), (.v (.int .i64 0)), .nil0], (some 12), none, [], none⟩,
  ⟨.store 3 (.tmp 12) (.tmp 53), none, none, [10, 7, 5, 0, 1, 2, 3, 4, 5, 6, 7, 10], none⟩,
  ⟨.mov (.tmp 54), (some 13), none, [8, 11, 0, 1, 2, 3, 4, 5, 6, 7, 8, 10, 11], none⟩,
  ⟨.mov (.tmp 55), (some 14), none, [9, 12, 0, 1, 2, 3, 4, 5, 6, 7, 8, 9, 10, 11, 12], none⟩]
def d10r8 : List RO := [
  ⟨.mov (.tmp 3), (some 56), none, [], none⟩,
  ⟨.mov (.tmp 56), (some 57), none, [0], none⟩,
  ⟨.load 3 true (.tmp 2), (some 58), (some (57, true)), [1], none⟩,
  ⟨.build [(.v (.int .i64 0)), (.v (.int .i64 0)), (.v (.int .i64 0))] [(0, 1, (.con (.v (.int .i64 2)))), (1, 1, (.con (.v (.int .i64 0)))), (2, 1, (.con (.v (.int .i64 2))))], (some 59), (some (57, true)), [1], none⟩,
  ⟨.eqT false true [(.int .i64), (.int .i64), (.int .i64)] (.tmp 58) (.tmp 59), (some 60), (some (57, true)), [2, 3, 1], none⟩,
  ⟨.pick (.tmp 57) (.tmp 60) (.con (.v (.bool false))), (some 61), none, [1, 4], none⟩,
  ⟨.mov (.tmp 61), (some 62), none, [5, 1], none⟩,
  ⟨.mov (.tmp 5), (some 63), (some (62, true)), [6], none⟩,
  ⟨.pick (.tmp 62) (.tmp 63) (.con (.v (.bool false))), (some 64), none, [6, 7], none⟩,
  ⟨.mov (.tmp 64), (some 65), none, [8, 6], none⟩,
  ⟨.load 3 true (.tmp 4), (some 66), (some (65, true)), [9], none⟩,
  ⟨.build [(.v (.int .i64 0)), (.v (.int .i64 0)), (.v (.int .i64 0))] [(0, 1, (.con (.v (.int .i64 1)))), (1, 1, (.con (.v (.int .i64 4)))), (2, 1, (.con (.v (.int .i64 6))))], (some 67), (some (65, true)), [9], none⟩,
  ⟨.eqT false true [(.int .i64), (.int .i64), (.int .i64)] (.tmp 66) (.tmp 67), (some 68), (some (65, true)), [10, 11, 9], none⟩,
  ⟨.pick (.tmp 65) (.tmp 68) (.con (.v (.bool false))), (some 69), none, [9, 12], none⟩,
  ⟨.mov (.tmp 69), (some 70), none, [13, 9], none⟩,
  ⟨.mov (.tmp 7), (some 71), (some (70, true)), [14], none⟩,
  ⟨.un .not (.tmp 71), (some 72), (some (70, true)), [15, 14], none⟩,
  ⟨.pick (.tmp 70) (.tmp 72) (.con (.v (.bool false))), (some 73), none, [14, 16], none⟩,
  ⟨.mov (.tmp 73), (some 74), none, [17, 14], none⟩,
  ⟨.mov (.tmp 9), (some 75), (some (74, true)), [18], none⟩,
  ⟨.un .not (.tmp 75), (some 76), (some (74, true)), [19, 18], none⟩,
  ⟨.pick (.tmp 74) (.tmp 76) (.con (.v (.bool false))), (some 77), none, [18, 20], none⟩,
  ⟨.mov (.tmp 77), (some 78), none, [21, 18], none⟩,
  ⟨.mov (.tmp 11), (some 79), (some (78, true)), [22], none⟩,
  ⟨.pick (.tmp 78) (.tmp 79) (.con (.v (.bool false))), (some 80), none, [22, 23], none⟩,
  ⟨.mov (.tmp 80), (some 81), none, [24, 22], none⟩,
  ⟨.load 3 true (.tmp 10), (some 82), (some (81, true)), [25], none⟩,
  ⟨.build [(.v (.int .i64 0)), (.v (.int .i64 0)), (.v (.int .i64 0))] [(1, 1, (.con (.v (.int .i64 8)))), (2, 1, (.con (.v (.int .i64 10))))], (some 83), (some (81, true)), [25], none⟩,
  ⟨.eqT false true [(.int .i64), (.int .i64), (.int .i64)] (.tmp 82) (.tmp 83), (some 84), (some (81, true)), [26, 27, 25], none⟩,
  ⟨.pick (.tmp 81) (.tmp 84) (.con (.v (.bool false))), (some 85), none, [25, 28], none⟩,
  ⟨.mov (.tmp 85), (some 86), none, [29, 25], none⟩,
  ⟨.mov (.tmp 14), (some 87), (some (86, true)), [30], none⟩,
  ⟨.bin .eql (.tmp 87) (.con (.v (.int .i64 13))), (some 88), (some (86, true)), [31, 30], none⟩,
  ⟨.pick (.tmp 86) (.tmp 88) (.con (.v (.bool false))), (some 89), none, [30, 32], none⟩,
  ⟨.mov (.tmp 89), (some 0), none, [33, 30, 0, 1, 2, 3, 4, 5, 6, 7, 8, 9, 10, 11, 12, 13, 14, 15, 16, 17, 18, 19, 20, 21, 22, 23, 24, 25, 26, 27, 28, 29, 30, 31, 32, 33], none⟩]
def d10 : DC := (.seq (.region false d10r0)
  (.seq (.region false d10r1)
  (.seq (.region false d10r2)
  (.seq (.region false d10r3)
  (.seq (.region false d10r4)
  (.seq (.region false d10r5)
  (.seq (.region false d10r6)
  (.seq (.region false d10r7)
  (.seq (.region false d10r8)
  .ret)))))))))
def d10res : List DRes := [.slot 0]
theorem c10 [Laid] : CodeOf Tryz.prog 10 90 d10 d10res := ⟨Tryz.f10, by kernel_rfl, by kernel_rfl, by kernel_rfl, by kernel_rfl, by kernel_rfl⟩
-- emendate/increment.end
def d41r0 : List RO := [
  ⟨.mov (.con (.v (.int .i64 0))), (some 2), none, [], none⟩]
def d41r1 : List RO := [
  ⟨.mov (.tmp 0), (some 3), none, [], none⟩,
  ⟨.bin .rem (.tmp 3) (.con (.v (.int .i64 2))), (some 4), none, [0], none⟩,
  ⟨.bin .eql (.tmp 4) (.con (.v (.int .i64 0))), (some 5), none, [1], none⟩]
def d41r2 : List RO := [
  ⟨.mov (.tmp 0), (some 6), none, [], none⟩,
  ⟨.bin .quo (.tmp 6) (.con (.v (.int .i64 2))), (some 7), none, [0], none⟩,
  ⟨.mov (.tmp 7), (some 2), none, [1, 0, 1], none⟩]
def d41r3 : List RO := [
  ⟨.mov (.tmp 0), (some 8), none, [], none⟩,
  ⟨.bin .sub (.tmp 8) (.con (.v (.int .i64 1))), (some 9), none, [0], none⟩,
  ⟨.bin .quo (.tmp 9) (.con (.v (.int .i64 2))), (some 10), none, [1], none⟩,
  ⟨.bin .add (.tmp 10) (.con (.v (.int .i64 2))), (some 11), none, [2], none⟩,
  ⟨.mov (.tmp 11), (some 2), none, [3, 0, 1, 2, 3], none⟩]
def d41 : DC := (.seq (.region false d41r0)
  (.seq (.seq (.region false d41r1)
  (.cond (.tmp 5) (.seq (.region false d41r2)
  .ret)
  .skip))
  (.seq (.region false d41r3)
  .ret)))
def d41res : List DRes := [.slot 2]
theorem c41 [Laid] : CodeOf Tryz.prog 41 12 d41 d41res := ⟨Tryz.f41, by kernel_rfl, by kernel_rfl, by kernel_rfl, by kernel_rfl, by kernel_rfl⟩
-- emendate/increment.Keep
def d18r0 : List RO := [
  ⟨.box (.tmp 0), (some 3), none, [], none⟩,
  ⟨.box (.tmp 1), (some 4), none, [], none⟩,
  ⟨.alloc [(.v (.int .i64 0)), (.v (.int .i64 0)), (.v (.int .i64 0))], (some 6), none, [], none⟩,
  ⟨.mov (.con (.v (.bool false))), (some 7), none, [], none⟩]
def d18r1 : List RO := [
  ⟨.addOff 0 (.tmp 3), (some 9), none, [], none⟩,
  ⟨.load 1 false (.tmp 9), (some 10), none, [0], none⟩,
  ⟨.bin .lss (.tmp 10) (.con (.v (.int .i64 0))), (some 11), none, [1], none⟩,
  ⟨.mov (.tmp 11), (some 12), none, [2], none⟩,
  ⟨.addOff 1 (.tmp 3), (some 13), (some (12, false)), [3], none⟩,
  ⟨.load 1 false (.tmp 13), (some 14), (some (12, false)), [4, 3], none⟩,
  ⟨.bin .lss (.tmp 14) (.con (.v (.int .i64 0))), (some 15), (some (12, false)), [5, 3], none⟩,
  ⟨.pick (.tmp 12) (.con (.v (.bool true))) (.tmp 15), (some 16), none, [3, 6], none⟩,
  ⟨.mov (.tmp 16), (some 17), none, [7, 3], none⟩,
  ⟨.addOff 1 (.tmp 3), (some 18), (some (17, false)), [8], none⟩,
  ⟨.load 1 false (.tmp 18), (some 19), (some (17, false)), [9, 8], none⟩,
  ⟨.addOff 2 (.tmp 3), (some 20), (some (17, false)), [8], none⟩,
  ⟨.load 1 false (.tmp 20), (some 21), (some (17, false)), [11, 8], none⟩,
  ⟨.bin .gtr (.tmp 19) (.tmp 21), (some 22), (some (17, false)), [10, 12, 8], none⟩,
  ⟨.pick (.tmp 17) (.con (.v (.bool true))) (.tmp 22), (some 23), none, [8, 13], none⟩,
  ⟨.mov (.tmp 23), (some 24), none, [14, 8], none⟩,
  ⟨.addOff 2 (.tmp 3), (some 25), (some (24, false)), [15], none⟩,
  ⟨.load 1 false (.tmp 25), (some 26), (some (24, false)), [16, 15], none⟩,
  ⟨.mov (.tmp 2), (some 27), (some (24, false)), [15], none⟩,
  ⟨.bin .geq (.tmp 26) (.tmp 27), (some 28), (some (24, false)), [17, 18, 15], none⟩,
  ⟨.pick (.tmp 24) (.con (.v (.bool true))) (.tmp 28), (some 29), none, [15, 19], none⟩,
  ⟨.mov (.tmp 29), (some 30), none, [20, 15], none⟩,
  ⟨.addOff 0 (.tmp 4), (some 31), (some (30, false)), [21], none⟩,
  ⟨.load 1 false (.tmp 31), (some 32), (some (30, false)), [22, 21], none⟩,
  ⟨.bin .lss (.tmp 32) (.con (.v (.int .i64 0))), (some 33), (some (30, false)), [23, 21], none⟩,
  ⟨.pick (.tmp 30) (.con (.v (.bool true))) (.tmp 33), (some 34), none, [21, 24], none⟩,
  ⟨.mov (.tmp 34), (some 35), none, [25, 21], none⟩,
  ⟨.addOff 1 (.tmp 4), (some 36), (some (35, false)), [26], none⟩,
  ⟨.load 1 false (.tmp 36), (some 37), (some (35, false)), [27, 26], none⟩,
  ⟨.bin .lss (.tmp 37) (.con (.v (.int .i64 0))), (some 38), (some (35, false)), [28, 26], none⟩,
  ⟨.pick (.tmp 35) (.con (.v (.bool true))) (.tmp 38), (some 39), none, [26, 29], none⟩,
  ⟨.mov (.tmp 39), (some 40), none, [30, 26], none⟩,
  ⟨.addOff 2 (.tmp 4), (some 41), (some (40, false)), [31], none⟩,
  ⟨.load 1 false (.tmp 41), (some 42), (some (40, false)), [32, 31], none⟩,
  ⟨.bin .lss (.tmp 42) (.con (.v (.int .i64 0))), (some 43), (some (40, false)), [33, 31], none⟩,
  ⟨.pick (.tmp 40) (.con (.v (.bool true))) (.tmp 43), (some 44), none, [31, 34], none⟩,
  ⟨.mov (.tmp 44), (some 45), none, [35, 31], none⟩,
  ⟨.addOff 2 (.tmp 4), (some 46), (some (45, false)), [36], none⟩,
  ⟨.load 1 false (.tmp 46), (some 47), (some (45, false)), [37, 36], none⟩,
  ⟨.bin .gtr (.tmp 47) (.con (.v (.int .i64 60))), (some 48), (some (45, false)), [38, 36], none⟩,
  ⟨.pick (.tmp 45) (.con (.v (.bool true))) (.tmp 48), (some 49), none, [36, 39], none⟩,
  ⟨.mov (.tmp 49), (some 50), none, [40, 36], none⟩,
  ⟨.addOff 0 (.tmp 4), (some 51), (some (50, false)), [41], none⟩,
  ⟨.load 1 false (.tmp 51), (some 52), (some (50, false)), [42, 41], none⟩,
  ⟨.mov (.tmp 2), (some 53), (some (50, false)), [41], none⟩,
  ⟨.bin .sub (.tmp 53) (.con (.v (.int .i64 1))), (some 54), (some (50, false)), [44, 41], none⟩,
  ⟨.bin .quo (.tmp 54) (.con (.v (.int .i64 2))), (some 55), (some (50, false)), [45, 41], none⟩,
  ⟨.bin .gtr (.tmp 52) (.tmp 55), (some 56), (some (50, false)), [43, 46, 41], none⟩,
  ⟨.pick (.tmp 50) (.con (.v (.bool true))) (.tmp 56), (some 57), none, [41, 47], none⟩,
  ⟨.mov (.tmp 57), (some 58), none, [48, 41], none⟩,
  ⟨.addOff 1 (.tmp 4), (some 59), (some (58, false)), [49], none⟩,
  ⟨.load 1 false (.tmp 59), (some 60), (some (58, false)), [50, 49], none⟩,
  ⟨.mov (.tmp 2), (some 61), (some (58, false)), [49], none⟩,
  ⟨.bin .sub (.tmp 61) (.con (.v (.int .i64 1))), (some 62), (some (58, false)), [52, 49], none⟩,
  ⟨.bin .quo (.tmp 62) (.con (.v (.int .i64 2))), (some 63), (some (58, false)), [53, 49], none⟩,
  ⟨.addOff 0 (.tmp 4), (some 64), (some (58, false)), [49], none⟩,
  ⟨.load 1 false (.tmp 64), (some 65), (some (58, false)), [55, 49], none⟩,
  ⟨.bin .sub (.tmp 63) (.tmp 65), (some 66), (some (58, false)), [54, 56, 49], none⟩,
  ⟨.bin .gtr (.tmp 60) (.tmp 66), (some 67), (some (58, false)), [51, 57, 49], none⟩,
  ⟨.pick (.tmp 58) (.con (.v (.bool true))) (.tmp 67), (some 68), none, [49, 58], none⟩]
def d18r2 : List RO := [
  ⟨.build [(.v (.int .i64 0)), (.v (.int .i64 0)), (.v (.int .i64 0))] [], (some 69), none, [], none⟩,
  ⟨.store 3 (.tmp 6) (.tmp 69), none, none, [0, 0], none⟩,
  ⟨.mov (.con (.v (.bool false))), (some 7), none, [1, 0, 1], none⟩]
def d18r3 : List RO := [
  ⟨.addOff 2 (.tmp 3), (some 70), none, [], none⟩,
  ⟨.load 1 false (.tmp 70), (some 71), none, [0], none⟩,
  ⟨.call 41 [(.tmp 71)], (some 72), none, [1], none⟩,
  ⟨.addOff 0 (.tmp 4), (some 73), none, [], none⟩,
  ⟨.load 1 false (.tmp 73), (some 74), none, [3], none⟩,
  ⟨.bin .leq (.tmp 72) (.tmp 74), (some 75), none, [2, 4], none⟩]
def d18r4 : List RO := [
  ⟨.load 3 true (.tmp 3), (some 76), none, [], none⟩,
  ⟨.store 3 (.tmp 6) (.tmp 76), none, none, [0, 0], none⟩,
  ⟨.mov (.con (.v (.bool true))), (some 7), none, [1, 0, 1], none⟩]
def d18r5 : List RO := [
  ⟨.addOff 1 (.tmp 3), (some 77), none, [], none⟩,
  ⟨.load 1 false (.tmp 77), (some 78), none, [0], none⟩,
  ⟨.bin .quo (.tmp 78) (.con (.v (.int .i64 2))), (some 79), none, [1], none⟩,
  ⟨.addOff 0 (.tmp 4), (some 80), none, [], none⟩,
  ⟨.load 1 false (.tmp 80), (some 81), none, [3], none⟩,
  ⟨.addOff 1 (.tmp 4), (some 82), none, [], none⟩,
  ⟨.load 1 false (.tmp 82), (some 83), none, [5], none⟩,
  ⟨.bin .add (.tmp 81) (.tmp 83), (some 84), none, [4, 6], none⟩,
  ⟨.bin .geq (.tmp 79) (.tmp 84), (some 85), none, [2, 7], none⟩]
def d18r6 : List RO := [
  ⟨.addOff 2 (.tmp 4), (some 86), none, [], none⟩,
  ⟨.load 1 false (.tmp 86), (some 87), none, [0], none⟩,
  ⟨.addOff 1 (.tmp 4), (some 88), none, [], none⟩,
  ⟨.load 1 false (.tmp 88), (some 89), none, [2], none⟩,
  ⟨.bin .sub (.tmp 87) (.tmp 89), (some 90), none, [1, 3], none⟩,
  ⟨.bin .mul (.con (.v (.int .i64 2))) (.tmp 90), (some 91), none, [4], none⟩,
  ⟨.mov (.tmp 91), (some 8), none, [5, 0, 1, 2, 3, 4, 5], none⟩]
def d18r7 : List RO := [
  ⟨.addOff 0 (.tmp 3), (some 92), none, [], none⟩,
  ⟨.load 1 false (.tmp 92), (some 93), none, [0], none⟩,
  ⟨.addOff 1 (.tmp 3), (some 94), none, [], none⟩,
  ⟨.load 1 false (.tmp 94), (some 95), none, [2], none⟩,
  ⟨.mov (.tmp 8), (some 96), none, [], none⟩,
  ⟨.bin .add (.tmp 95) (.tmp 96), (some 97), none, [3, 4], none⟩,
  ⟨.addOff 2 (.tmp 3), (some 98), none, [], none⟩,
  ⟨.load 1 false (.tmp 98), (some 99), none, [6], none⟩,
  ⟨.mov (.tmp 8), (some 100), none, [], none⟩,
  ⟨.bin .add (.tmp 99) (.tmp 100), (some 101), none, [7, 8], none⟩,
  ⟨.build [(.v (.int .i64 0)), (.v (.int .i64 0)), (.v (.int .i64 0))] [(0, 1, (.tmp 93)), (1, 1, (.tmp 97)), (2, 1, (.tmp 101))], (some 102), none, [1, 5, 9], none⟩,
  ⟨.store 3 (.tmp 6) (.tmp 102), none, none, [10, 0, 1, 2, 3, 4, 5, 6, 7, 8, 9, 10], none⟩,
  ⟨.mov (.con (.v (.bool true))), (some 7), none, [11, 0, 1, 2, 3, 4, 5, 6, 7, 8, 9, 10, 11], none⟩]
def d18r8 : List RO := [
  ⟨.build [(.v (.int .i64 0)), (.v (.int .i64 0)), (.v (.int .i64 0))] [], (some 103), none, [], none⟩,
  ⟨.store 3 (.tmp 6) (.tmp 103), none, none, [0, 0], none⟩,
  ⟨.mov (.con (.v (.bool false))), (some 7), none, [1, 0, 1], none⟩]
def d18 : DC := (.seq (.region false d18r0)
  (.seq (.seq (.region false d18r1)
  (.cond (.tmp 68) (.seq (.region false d18r2)
  .ret)
  .skip))
  (.seq (.seq (.region true d18r3)
  (.cond (.tmp 75) (.seq (.region false d18r4)
  .ret)
  .skip))
  (.seq (.seq (.region false d18r5)
  (.cond (.tmp 85) (.seq (.region false d18r6)
  (.seq (.region false d18r7)
  .ret))
  .skip))
  (.seq (.region false d18r8)
  .ret)))))
def d18res : List DRes := [.cell 6 3 true, .slot 7]
theorem c18 [Laid] : CodeOf Tryz.prog 18 104 d18 d18res := ⟨Tryz.f18, by kernel_rfl, by kernel_rfl, by kernel_rfl, by kernel_rfl, by kernel_rfl⟩
-- emendate/increment.cells
-- emendate/emendatelaw43.IncrementKeeps
def d5r0 : List RO := [
  ⟨.box (.tmp 0), (some 3), none, [], none⟩,
  ⟨.box (.tmp 1), (some 4), none, [], none⟩,
  ⟨.mov (.con (.v (.bool false))), (some 6), none, [], none⟩]
def d5r1 : List RO := [
  ⟨.load 10 true (.tmp 3), (some 14), none, [], none⟩,
  ⟨.call 9 [(.tmp 14)], (some 15), none, [0], none⟩,
  ⟨.un .not (.tmp 15), (some 16), none, [1], none⟩]
def d5r2 : List RO := [
  ⟨.call 10 [], (some 17), none, [], none⟩,
  ⟨.mov (.tmp 17), (some 6), none, [0, 0, 0], none⟩]
def d5r3 : List RO := [
  ⟨.addOff 0 (.tmp 3), (some 18), none, [], none⟩,
  ⟨.load 4 true (.tmp 18), (some 19), none, [0], none⟩,
  ⟨.addOff 4 (.tmp 3), (some 20), none, [], none⟩,
  ⟨.load 3 true (.tmp 20), (some 21), none, [2], none⟩,
  ⟨.call 12 [(.tmp 21)], (some 22), none, [3], none⟩,
  ⟨.call 11 [(.tmp 19), (.tmp 22)], (some 23), none, [1, 4, 4], none⟩,
  ⟨.addOff 0 (.tmp 3), (some 24), none, [], none⟩,
  ⟨.load 4 true (.tmp 24), (some 25), none, [6], none⟩,
  ⟨.load 10 true (.tmp 3), (some 26), none, [], none⟩,
  ⟨.call 14 [(.tmp 26)], (some 27), none, [8, 5], none⟩,
  ⟨.call 12 [(.tmp 27)], (some 28), none, [9, 9], none⟩,
  ⟨.call 11 [(.tmp 25), (.tmp 28)], (some 29), none, [7, 10, 10], none⟩,
  ⟨.alloc [(.v (.int .i64 0)), (.v (.int .i64 0)), .nil0], (some 7), none, [], none⟩,
  ⟨.alloc [(.v (.int .i64 0)), (.v (.int .i64 0)), .nil0], (some 8), none, [], none⟩,
  ⟨.store 3 (.tmp 7) (.tmp 23), none, none, [12, 5, 11, 0, 1, 2, 3, 4, 5, 12, 13], none⟩,
  ⟨.store 3 (.tmp 8) (.tmp 29), none, none, [13, 11, 14, 0, 1, 2, 3, 4, 5, 6, 7, 8, 9, 10, 11, 12, 13, 14], none⟩]
def d5r4 : List RO := [
  ⟨.mov (.tmp 2), (some 30), none, [], none⟩,
  ⟨.conv .i64 (.tmp 30), (some 31), none, [0], none⟩,
  ⟨.addOff 0 (.tmp 3), (some 32), none, [], none⟩,
  ⟨.addOff 1 (.tmp 32), (some 33), none, [2], none⟩,
  ⟨.load 1 false (.tmp 33), (some 34), none, [3], none⟩,
  ⟨.bin .rem (.tmp 31) (.tmp 34), (some 35), none, [1, 4], none⟩,
  ⟨.arrAddr 2 1 (.tmp 4) (.con (.v (.int .i64 0))), (some 36), none, [], none⟩,
  ⟨.load 1 false (.tmp 36), (some 37), none, [6], none⟩,
  ⟨.conv .i64 (.tmp 37), (some 38), none, [7], none⟩,
  ⟨.addOff 1 (.tmp 7), (some 39), none, [], none⟩,
  ⟨.load 1 false (.tmp 39), (some 40), none, [9], none⟩,
  ⟨.bin .rem (.tmp 38) (.tmp 40), (some 41), none, [8, 10], none⟩,
  ⟨.build [(.v (.int .i64 0)), (.v (.int .i64 0)), (.v (.int .i64 0))] [(0, 1, (.tmp 35)), (1, 1, (.tmp 41))], (some 42), none, [5, 11], none⟩,
  ⟨.alloc [(.v (.int .i64 0)), (.v (.int .i64 0)), (.v (.int .i64 0))], (some 9), none, [], none⟩,
  ⟨.store 3 (.tmp 9) (.tmp 42), none, none, [13, 12, 0, 1, 2, 3, 4, 5, 6, 7, 8, 9, 10, 11, 12, 13], none⟩]
def d5r5 : List RO := [
  ⟨.addOff 1 (.tmp 9), (some 43), none, [], none⟩,
  ⟨.load 1 false (.tmp 43), (some 44), none, [0], none⟩,
  ⟨.arrAddr 2 1 (.tmp 4) (.con (.v (.int .i64 1))), (some 45), none, [], none⟩,
  ⟨.load 1 false (.tmp 45), (some 46), none, [2], none⟩,
  ⟨.conv .i64 (.tmp 46), (some 47), none, [3], none⟩,
  ⟨.addOff 1 (.tmp 7), (some 48), none, [], none⟩,
  ⟨.load 1 false (.tmp 48), (some 49), none, [5], none⟩,
  ⟨.addOff 1 (.tmp 9), (some 50), none, [], none⟩,
  ⟨.load 1 false (.tmp 50), (some 51), none, [7], none⟩,
  ⟨.bin .sub (.tmp 49) (.tmp 51), (some 52), none, [6, 8], none⟩,
  ⟨.bin .rem (.tmp 47) (.tmp 52), (some 53), none, [4, 9], none⟩,
  ⟨.bin .add (.tmp 44) (.tmp 53), (some 54), none, [1, 10], none⟩,
  ⟨.addOff 2 (.tmp 9), (some 55), none, [0, 1, 2, 3, 4, 5, 6, 7, 8, 9, 10, 11], none⟩,
  ⟨.store 1 (.tmp 55) (.tmp 54), none, none, [12, 11, 0, 1, 2, 3, 4, 5, 6, 7, 8, 9, 10, 11], none⟩]
def d5r6 : List RO := [
  ⟨.load 3 true (.tmp 9), (some 57), none, [], none⟩,
  ⟨.load 10 true (.tmp 3), (some 58), none, [], none⟩,
  ⟨.call 15 [(.tmp 58)], (some 59), none, [1], none⟩,
  ⟨.addOff 1 (.tmp 7), (some 60), none, [], none⟩,
  ⟨.load 1 false (.tmp 60), (some 61), none, [3], none⟩,
  ⟨.call 18 [(.tmp 57), (.tmp 59), (.tmp 61)], (some 62), none, [0, 2, 4, 2], none⟩,
  ⟨.mov (.tmp 62), (some 56), none, [5], none⟩,
  ⟨.extract 0 (.tmp 56), (some 63), none, [6], none⟩,
  ⟨.extract 1 (.tmp 56), (some 64), none, [6], none⟩,
  ⟨.alloc [(.v (.int .i64 0)), (.v (.int .i64 0)), (.v (.int .i64 0))], (some 10), none, [], none⟩,
  ⟨.store 3 (.tmp 10) (.tmp 63), none, none, [9, 7, 5, 0, 1, 2, 3, 4, 5, 6, 7, 9], none⟩,
  ⟨.mov (.tmp 64), (some 11), none, [8, 10, 0, 1, 2, 3, 4, 5, 6, 7, 8, 9, 10], none⟩]
def d5r7 : List RO := [
  ⟨.mov (.tmp 11), (some 65), none, [], none⟩,
  ⟨.un .not (.tmp 65), (some 66), none, [0], none⟩]
def d5r8 : List RO := [
  ⟨.call 10 [], (some 67), none, [], none⟩,
  ⟨.mov (.tmp 67), (some 6), none, [0, 0, 0], none⟩]
def d5r9 : List RO := [
  ⟨.load 3 true (.tmp 7), (some 68), none, [], none⟩,
  ⟨.load 3 true (.tmp 9), (some 69), none, [], none⟩,
  ⟨.call 19 [(.tmp 68), (.tmp 69)], (some 70), none, [0, 1], none⟩,
  ⟨.load 3 true (.tmp 8), (some 71), none, [], none⟩,
  ⟨.load 3 true (.tmp 10), (some 72), none, [], none⟩,
  ⟨.call 19 [(.tmp 71), (.tmp 72)], (some 73), none, [3, 4, 2], none⟩,
  ⟨.alloc [(.v (.int .i64 0)), (.v (.int .i64 0)), (.v (.int .i64 0)), (.v (.int .i64 0))], (some 12), none, [], none⟩,
  ⟨.alloc [(.v (.int .i64 0)), (.v (.int .i64 0)), (.v (.int .i64 0)), (.v (.int .i64 0))], (some 13), none, [], none⟩,
  ⟨.store 4 (.tmp 12) (.tmp 70), none, none, [6, 2, 5, 0, 1, 2, 6, 7], none⟩,
  ⟨.store 4 (.tmp 13) (.tmp 73), none, none, [7, 5, 8, 0, 1, 2, 3, 4, 5, 6, 7, 8], none⟩]
def d5r10 : List RO := [
  ⟨.call 10 [], (some 74), none, [], none⟩,
  ⟨.mov (.tmp 74), (some 75), none, [0, 0], none⟩,
  ⟨.addOff 2 (.tmp 10), (some 76), (some (75, true)), [1], none⟩,
  ⟨.load 1 false (.tmp 76), (some 77), (some (75, true)), [2, 1], none⟩,
  ⟨.addOff 1 (.tmp 8), (some 78), (some (75, true)), [1], none⟩,
  ⟨.load 1 false (.tmp 78), (some 79), (some (75, true)), [4, 1], none⟩,
  ⟨.bin .lss (.tmp 77) (.tmp 79), (some 80), (some (75, true)), [3, 5, 1], none⟩,
  ⟨.pick (.tmp 75) (.tmp 80) (.con (.v (.bool false))), (some 81), none, [1, 6], none⟩,
  ⟨.mov (.tmp 81), (some 82), none, [7, 1], none⟩,
  ⟨.addOff 1 (.tmp 10), (some 83), (some (82, true)), [8], none⟩,
  ⟨.load 1 false (.tmp 83), (some 84), (some (82, true)), [9, 8], none⟩,
  ⟨.bin .geq (.tmp 84) (.con (.v (.int .i64 0))), (some 85), (some (82, true)), [10, 8], none⟩,
  ⟨.pick (.tmp 82) (.tmp 85) (.con (.v (.bool false))), (some 86), none, [8, 11], none⟩,
  ⟨.mov (.tmp 86), (some 87), none, [12, 8], none⟩,
  ⟨.addOff 0 (.tmp 12), (some 88), (some (87, true)), [13], none⟩,
  ⟨.load 2 true (.tmp 88), (some 89), (some (87, true)), [14, 13], none⟩,
  ⟨.addOff 0 (.tmp 13), (some 90), (some (87, true)), [13], none⟩,
  ⟨.load 2 true (.tmp 90), (some 91), (some (87, true)), [16, 13], none⟩,
  ⟨.eqT false true [(.int .i64), (.int .i64)] (.tmp 89) (.tmp 91), (some 92), (some (87, true)), [15, 17, 13], none⟩,
  ⟨.pick (.tmp 87) (.tmp 92) (.con (.v (.bool false))), (some 93), none, [13, 18], none⟩,
  ⟨.mov (.tmp 93), (some 94), none, [19, 13], none⟩,
  ⟨.addOff 2 (.tmp 12), (some 95), (some (94, true)), [20], none⟩,
  ⟨.load 1 false (.tmp 95), (some 96), (some (94, true)), [21, 20], none⟩,
  ⟨.addOff 2 (.tmp 13), (some 97), (some (94, true)), [20], none⟩,
  ⟨.load 1 false (.tmp 97), (some 98), (some (94, true)), [23, 20], none⟩,
  ⟨.bin .eql (.tmp 96) (.tmp 98), (some 99), (some (94, true)), [22, 24, 20], none⟩,
  ⟨.pick (.tmp 94) (.tmp 99) (.con (.v (.bool false))), (some 100), none, [20, 25], none⟩,
  ⟨.mov (.tmp 100), (some 6), none, [26, 20, 0, 1, 2, 3, 4, 5, 6, 7, 8, 9, 10, 11, 12, 13, 14, 15, 16, 17, 18, 19, 20, 21, 22, 23, 24, 25, 26], none⟩]
def d5 : DC := (.seq (.region false d5r0)
  (.seq (.seq (.region false d5r1)
  (.cond (.tmp 16) (.seq (.region false d5r2)
  .ret)
  .skip))
  (.seq (.region true d5r3)
  (.seq (.region true d5r4)
  (.seq (.region true d5r5)
  (.seq (.region true d5r6)
  (.seq (.seq (.region false d5r7)
  (.cond (.tmp 66) (.seq (.region false d5r8)
  .ret)
  .skip))
  (.seq (.region true d5r9)
  (.seq (.region false d5r10)
  .ret)))))))))
def d5res : List DRes := [.slot 6]
theorem c5 [Laid] : CodeOf Tryz.prog 5 101 d5 d5res := ⟨Tryz.f5, by kernel_rfl, by kernel_rfl, by kernel_rfl, by kernel_rfl, by kernel_rfl⟩
-- emendate/emendatelaw43.IncrementErrors
-- emendate/increment.Update
def d13r0 : List RO := [
  ⟨.box (.tmp 0), (some 4), none, [], none⟩,
  ⟨.box (.tmp 1), (some 5), none, [], none⟩,
  ⟨.box (.tmp 2), (some 6), none, [], none⟩,
  ⟨.box (.tmp 3), (some 7), none, [], none⟩,
  ⟨.alloc [(.v (.int .i64 0)), (.v (.int .i64 0)), .nil0], (some 8), none, [], none⟩,
  ⟨.mov (.con (.v (.int .i64 0))), (some 9), none, [], none⟩,
  ⟨.mov (.con (.v (.int .i64 0))), (some 10), none, [5], none⟩]
def d13r1 : List RO := [
  ⟨.addOff 0 (.tmp 6), (some 23), none, [], none⟩,
  ⟨.load 1 false (.tmp 23), (some 24), none, [0], none⟩,
  ⟨.len (.tmp 24), (some 25), none, [1], none⟩,
  ⟨.mov (.tmp 25), (some 11), none, [2, 0, 1, 2], none⟩]
def d13r2 : List RO := [
  ⟨.addOff 0 (.tmp 7), (some 26), none, [], none⟩,
  ⟨.load 1 false (.tmp 26), (some 27), none, [0], none⟩,
  ⟨.bin .lss (.tmp 27) (.con (.v (.int .i64 0))), (some 28), none, [1], none⟩,
  ⟨.mov (.tmp 28), (some 29), none, [2], none⟩,
  ⟨.addOff 1 (.tmp 7), (some 30), (some (29, false)), [3], none⟩,
  ⟨.load 1 false (.tmp 30), (some 31), (some (29, false)), [4, 3], none⟩,
  ⟨.bin .lss (.tmp 31) (.con (.v (.int .i64 0))), (some 32), (some (29, false)), [5, 3], none⟩,
  ⟨.pick (.tmp 29) (.con (.v (.bool true))) (.tmp 32), (some 33), none, [3, 6], none⟩,
  ⟨.mov (.tmp 33), (some 34), none, [7, 3], none⟩,
  ⟨.addOff 2 (.tmp 7), (some 35), (some (34, false)), [8], none⟩,
  ⟨.load 1 false (.tmp 35), (some 36), (some (34, false)), [9, 8], none⟩,
  ⟨.bin .lss (.tmp 36) (.con (.v (.int .i64 0))), (some 37), (some (34, false)), [10, 8], none⟩,
  ⟨.pick (.tmp 34) (.con (.v (.bool true))) (.tmp 37), (some 38), none, [8, 11], none⟩,
  ⟨.mov (.tmp 38), (some 39), none, [12, 8], none⟩,
  ⟨.addOff 2 (.tmp 7), (some 40), (some (39, false)), [13], none⟩,
  ⟨.load 1 false (.tmp 40), (some 41), (some (39, false)), [14, 13], none⟩,
  ⟨.mov (.tmp 11), (some 42), (some (39, false)), [13], none⟩,
  ⟨.bin .gtr (.tmp 41) (.tmp 42), (some 43), (some (39, false)), [15, 16, 13], none⟩,
  ⟨.pick (.tmp 39) (.con (.v (.bool true))) (.tmp 43), (some 44), none, [13, 17], none⟩,
  ⟨.mov (.tmp 44), (some 45), none, [18, 13], none⟩,
  ⟨.addOff 0 (.tmp 7), (some 46), (some (45, false)), [19], none⟩,
  ⟨.load 1 false (.tmp 46), (some 47), (some (45, false)), [20, 19], none⟩,
  ⟨.mov (.tmp 11), (some 48), (some (45, false)), [19], none⟩,
  ⟨.addOff 2 (.tmp 7), (some 49), (some (45, false)), [19], none⟩,
  ⟨.load 1 false (.tmp 49), (some 50), (some (45, false)), [23, 19], none⟩,
  ⟨.bin .sub (.tmp 48) (.tmp 50), (some 51), (some (45, false)), [22, 24, 19], none⟩,
  ⟨.bin .gtr (.tmp 47) (.tmp 51), (some 52), (some (45, false)), [21, 25, 19], none⟩,
  ⟨.pick (.tmp 45) (.con (.v (.bool true))) (.tmp 52), (some 53), none, [19, 26], none⟩]
def d13r3 : List RO := [
  ⟨.build [(.v (.int .i64 0)), (.v (.int .i64 0)), .nil0] [], (some 54), none, [], none⟩,
  ⟨.store 3 (.tmp 8) (.tmp 54), none, none, [0, 0], none⟩,
  ⟨.mov (.con (.v (.int .i64 0))), (some 9), none, [1, 0, 1], none⟩,
  ⟨.mov (.con (.v (.int .i64 2))), (some 10), none, [2, 0, 1, 2], none⟩]
def d13r4 : List RO := [
  ⟨.addOff 0 (.tmp 5), (some 55), none, [], none⟩,
  ⟨.load 1 false (.tmp 55), (some 56), none, [0], none⟩,
  ⟨.addOff 1 (.tmp 4), (some 57), none, [], none⟩,
  ⟨.load 1 false (.tmp 57), (some 58), none, [2], none⟩,
  ⟨.bin .neq (.tmp 56) (.tmp 58), (some 59), none, [1, 3], none⟩,
  ⟨.mov (.tmp 59), (some 60), none, [4], none⟩,
  ⟨.addOff 1 (.tmp 5), (some 61), (some (60, false)), [5], none⟩,
  ⟨.load 1 false (.tmp 61), (some 62), (some (60, false)), [6, 5], none⟩,
  ⟨.bin .lss (.tmp 62) (.con (.v (.int .i64 1))), (some 63), (some (60, false)), [7, 5], none⟩,
  ⟨.pick (.tmp 60) (.con (.v (.bool true))) (.tmp 63), (some 64), none, [5, 8], none⟩,
  ⟨.mov (.tmp 64), (some 65), none, [9, 5], none⟩,
  ⟨.addOff 1 (.tmp 5), (some 66), (some (65, false)), [10], none⟩,
  ⟨.load 1 false (.tmp 66), (some 67), (some (65, false)), [11, 10], none⟩,
  ⟨.bin .rem (.tmp 67) (.con (.v (.int .i64 2))), (some 68), (some (65, false)), [12, 10], none⟩,
  ⟨.bin .eql (.tmp 68) (.con (.v (.int .i64 0))), (some 69), (some (65, false)), [13, 10], none⟩,
  ⟨.pick (.tmp 65) (.con (.v (.bool true))) (.tmp 69), (some 70), none, [10, 14], none⟩,
  ⟨.mov (.tmp 70), (some 71), none, [15, 10], none⟩,
  ⟨.addOff 1 (.tmp 5), (some 72), (some (71, false)), [16], none⟩,
  ⟨.load 1 false (.tmp 72), (some 73), (some (71, false)), [17, 16], none⟩,
  ⟨.bin .sub (.tmp 73) (.con (.v (.int .i64 1))), (some 74), (some (71, false)), [18, 16], none⟩,
  ⟨.bin .quo (.tmp 74) (.con (.v (.int .i64 2))), (some 75), (some (71, false)), [19, 16], none⟩,
  ⟨.mov (.tmp 11), (some 76), (some (71, false)), [16], none⟩,
  ⟨.addOff 2 (.tmp 7), (some 77), (some (71, false)), [16], none⟩,
  ⟨.load 1 false (.tmp 77), (some 78), (some (71, false)), [22, 16], none⟩,
  ⟨.bin .sub (.tmp 76) (.tmp 78), (some 79), (some (71, false)), [21, 23, 16], none⟩,
  ⟨.bin .sub (.tmp 75) (.tmp 79), (some 80), (some (71, false)), [20, 24, 16], none⟩,
  ⟨.addOff 1 (.tmp 7), (some 81), (some (71, false)), [16], none⟩,
  ⟨.load 1 false (.tmp 81), (some 82), (some (71, false)), [26, 16], none⟩,
  ⟨.bin .neq (.tmp 80) (.tmp 82), (some 83), (some (71, false)), [25, 27, 16], none⟩,
  ⟨.pick (.tmp 71) (.con (.v (.bool true))) (.tmp 83), (some 84), none, [16, 28], none⟩,
  ⟨.mov (.tmp 84), (some 85), none, [29, 16], none⟩,
  ⟨.addOff 2 (.tmp 5), (some 86), (some (85, false)), [30], none⟩,
  ⟨.load 1 false (.tmp 86), (some 87), (some (85, false)), [31, 30], none⟩,
  ⟨.len (.tmp 87), (some 88), (some (85, false)), [32, 30], none⟩,
  ⟨.addOff 1 (.tmp 4), (some 89), (some (85, false)), [30], none⟩,
  ⟨.load 1 false (.tmp 89), (some 90), (some (85, false)), [34, 30], none⟩,
  ⟨.addOff 1 (.tmp 5), (some 91), (some (85, false)), [30], none⟩,
  ⟨.load 1 false (.tmp 91), (some 92), (some (85, false)), [36, 30], none⟩,
  ⟨.call 31 [(.tmp 90), (.tmp 92)], (some 93), (some (85, false)), [35, 37, 30, 30], none⟩,
  ⟨.bin .neq (.tmp 88) (.tmp 93), (some 94), (some (85, false)), [33, 38, 30], none⟩,
  ⟨.pick (.tmp 85) (.con (.v (.bool true))) (.tmp 94), (some 95), none, [30, 39], none⟩]
def d13r5 : List RO := [
  ⟨.build [(.v (.int .i64 0)), (.v (.int .i64 0)), .nil0] [], (some 96), none, [], none⟩,
  ⟨.store 3 (.tmp 8) (.tmp 96), none, none, [0, 0], none⟩,
  ⟨.mov (.con (.v (.int .i64 0))), (some 9), none, [1, 0, 1], none⟩,
  ⟨.mov (.con (.v (.int .i64 13))), (some 10), none, [2, 0, 1, 2], none⟩]
def d13r6 : List RO := [
  ⟨.load 3 true (.tmp 6), (some 97), none, [], none⟩,
  ⟨.call 32 [(.tmp 97)], (some 98), none, [0], none⟩,
  ⟨.alloc [(.v (.int .i64 0)), .nil0, .nil0], (some 12), none, [], none⟩,
  ⟨.store 3 (.tmp 12) (.tmp 98), none, none, [2, 1, 1, 0, 1, 2], none⟩]
def d13r7 : List RO := [
  ⟨.addOff 1 (.tmp 4), (some 99), none, [], none⟩,
  ⟨.load 1 false (.tmp 99), (some 100), none, [0], none⟩,
  ⟨.addOff 0 (.tmp 12), (some 101), none, [], none⟩,
  ⟨.load 1 false (.tmp 101), (some 102), none, [2], none⟩,
  ⟨.build [(.v (.int .i64 0)), (.v (.int .i64 0)), .nil0] [(0, 1, (.tmp 100)), (1, 1, (.tmp 102))], (some 103), none, [1, 3], none⟩,
  ⟨.alloc [(.v (.int .i64 0)), (.v (.int .i64 0)), .nil0], (some 13), none, [], none⟩,
  ⟨.store 3 (.tmp 13) (.tmp 103), none, none, [5, 4, 0, 1, 2, 3, 4, 5], none⟩]
def d13r8 : List RO := [
  ⟨.addOff 1 (.tmp 4), (some 104), none, [], none⟩,
  ⟨.load 1 false (.tmp 104), (some 105), none, [0], none⟩,
  ⟨.addOff 0 (.tmp 12), (some 106), none, [], none⟩,
  ⟨.load 1 false (.tmp 106), (some 107), none, [2], none⟩,
  ⟨.call 31 [(.tmp 105), (.tmp 107)], (some 108), none, [1, 3], none⟩,
  ⟨.mkSlice 57 4 32 [(.int .i64 0), (.int .i64 0), (.int .i64 0), (.int .i64 0)] (.tmp 108), (some 109), none, [4, 4], none⟩,
  ⟨.alloc [.nil0], (some 14), none, [], none⟩,
  ⟨.store 1 (.tmp 14) (.tmp 109), none, none, [6, 5, 4, 0, 1, 2, 3, 4, 5, 6], none⟩]
def d13r9 : List RO := [
  ⟨.load 1 false (.tmp 14), (some 110), none, [], none⟩,
  ⟨.addOff 2 (.tmp 13), (some 111), none, [0], none⟩,
  ⟨.store 1 (.tmp 111) (.tmp 110), none, none, [1, 0, 0], none⟩]
def d13r10 : List RO := [
  ⟨.alloc [(.v (.int .i64 0))], (some 15), none, [], none⟩,
  ⟨.store 1 (.tmp 15) (.con (.v (.int .i64 0))), none, none, [0, 0], none⟩]
def d13r11 : List RO := [
  ⟨.addOff 0 (.tmp 12), (some 112), none, [], none⟩,
  ⟨.load 1 false (.tmp 112), (some 113), none, [0], none⟩,
  ⟨.call 33 [(.tmp 113)], (some 114), none, [1], none⟩]
def d13r12 : List RO := [
  ⟨.mov (.tmp 115), (some 16), none, [], none⟩]
def d13r13 : List RO := [
  ⟨.mov (.tmp 116), (some 17), none, [], none⟩]
def d13r14 : List RO := [
  ⟨.mov (.tmp 16), (some 117), none, [], none⟩,
  ⟨.addOff 0 (.tmp 12), (some 118), none, [], none⟩,
  ⟨.load 1 false (.tmp 118), (some 119), none, [1], none⟩,
  ⟨.bin .mul (.tmp 117) (.tmp 119), (some 120), none, [0, 2], none⟩,
  ⟨.mov (.tmp 16), (some 121), none, [], none⟩,
  ⟨.mov (.tmp 16), (some 122), none, [], none⟩,
  ⟨.bin .sub (.tmp 122) (.con (.v (.int .i64 1))), (some 123), none, [5], none⟩,
  ⟨.bin .mul (.tmp 121) (.tmp 123), (some 124), none, [4, 6], none⟩,
  ⟨.bin .quo (.tmp 124) (.con (.v (.int .i64 2))), (some 125), none, [7], none⟩,
  ⟨.bin .sub (.tmp 120) (.tmp 125), (some 126), none, [3, 8], none⟩,
  ⟨.mov (.tmp 17), (some 127), none, [], none⟩,
  ⟨.bin .add (.tmp 126) (.tmp 127), (some 128), none, [9, 10], none⟩,
  ⟨.mov (.tmp 16), (some 129), none, [], none⟩,
  ⟨.bin .sub (.tmp 128) (.tmp 129), (some 130), none, [11, 12], none⟩,
  ⟨.addOff 1 (.tmp 4), (some 131), none, [], none⟩,
  ⟨.load 1 false (.tmp 131), (some 132), none, [14], none⟩,
  ⟨.bin .mul (.tmp 130) (.tmp 132), (some 133), none, [13, 15], none⟩,
  ⟨.mov (.tmp 133), (some 18), none, [16, 0, 1, 2, 3, 4, 5, 6, 7, 8, 9, 10, 11, 12, 13, 14, 15, 16], none⟩]
def d13r15 : List RO := [
  ⟨.load 3 true (.tmp 7), (some 135), none, [], none⟩,
  ⟨.mov (.tmp 16), (some 136), none, [], none⟩,
  ⟨.mov (.tmp 17), (some 137), none, [], none⟩,
  ⟨.addOff 1 (.tmp 5), (some 138), none, [], none⟩,
  ⟨.load 1 false (.tmp 138), (some 139), none, [3], none⟩,
  ⟨.call 34 [(.tmp 135), (.tmp 136), (.tmp 137), (.tmp 139)], (some 140), none, [0, 1, 2, 4], none⟩,
  ⟨.mov (.tmp 140), (some 134), none, [5], none⟩,
  ⟨.extract 0 (.tmp 134), (some 141), none, [6], none⟩,
  ⟨.extract 1 (.tmp 134), (some 142), none, [6], none⟩,
  ⟨.extract 2 (.tmp 134), (some 143), none, [6], none⟩,
  ⟨.mov (.tmp 141), (some 19), none, [7, 5, 0, 1, 2, 3, 4, 5, 6, 7], none⟩,
  ⟨.mov (.tmp 142), (some 20), none, [8, 10, 0, 1, 2, 3, 4, 5, 6, 7, 8, 10], none⟩,
  ⟨.mov (.tmp 143), (some 21), none, [9, 11, 0, 1, 2, 3, 4, 5, 6, 7, 8, 9, 10, 11], none⟩]
def d13r16 : List RO := [
  ⟨.mov (.tmp 21), (some 144), none, [], none⟩,
  ⟨.un .not (.tmp 144), (some 145), none, [0], none⟩]
def d13r17 : List RO := [
  ⟨.load 1 false (.tmp 15), (some 146), none, [], none⟩,
  ⟨.load 1 false (.tmp 14), (some 147), none, [], none⟩,
  ⟨.mov (.tmp 18), (some 148), none, [], none⟩,
  ⟨.mov (.tmp 18), (some 149), none, [], none⟩,
  ⟨.addOff 1 (.tmp 4), (some 150), none, [], none⟩,
  ⟨.load 1 false (.tmp 150), (some 151), none, [4], none⟩,
  ⟨.bin .add (.tmp 149) (.tmp 151), (some 152), none, [3, 5], none⟩,
  ⟨.slice 4 (.tmp 147) (some (.tmp 148)) (some (.tmp 152)), (some 153), none, [1, 2, 6], none⟩,
  ⟨.load 4 true (.tmp 4), (some 154), none, [], none⟩,
  ⟨.load 3 true (.tmp 12), (some 155), none, [], none⟩,
  ⟨.load 3 true (.tmp 13), (some 156), none, [], none⟩,
  ⟨.mov (.tmp 16), (some 157), none, [], none⟩,
  ⟨.mov (.tmp 17), (some 158), none, [], none⟩,
  ⟨.call 35 [(.tmp 154), (.tmp 155), (.tmp 156), (.tmp 157), (.tmp 158)], (some 159), none, [8, 9, 10, 11, 12], none⟩,
  ⟨.copy 4 (.tmp 153) (.tmp 159), (some 160), none, [7, 13, 13], none⟩,
  ⟨.bin .add (.tmp 146) (.tmp 160), (some 161), none, [0, 14], none⟩,
  ⟨.store 1 (.tmp 15) (.tmp 161), none, none, [15, 14, 0, 1, 2, 3, 4, 5, 6, 7, 8, 9, 10, 11, 12, 13, 14, 15], none⟩]
def d13r18 : List RO := [
  ⟨.addOff 1 (.tmp 4), (some 162), none, [], none⟩,
  ⟨.load 1 false (.tmp 162), (some 163), none, [0], none⟩,
  ⟨.mov (.con (.v (.int .i64 0))), (some 164), none, [], none⟩]
def d13r19 : List RO := [
  ⟨.bin .lss (.tmp 164) (.tmp 163), (some 165), none, [], none⟩]
def d13r20 : List RO := [
  ⟨.mov (.tmp 164), (some 166), none, [], none⟩,
  ⟨.mov (.tmp 166), (some 22), none, [0, 0], none⟩]
def d13r21 : List RO := [
  ⟨.load 1 false (.tmp 14), (some 167), none, [], none⟩,
  ⟨.mov (.tmp 18), (some 168), none, [], none⟩,
  ⟨.mov (.tmp 22), (some 169), none, [], none⟩,
  ⟨.bin .add (.tmp 168) (.tmp 169), (some 170), none, [1, 2], none⟩,
  ⟨.load 4 true (.tmp 4), (some 171), none, [], none⟩,
  ⟨.load 3 true (.tmp 12), (some 172), none, [], none⟩,
  ⟨.load 3 true (.tmp 5), (some 173), none, [], none⟩,
  ⟨.mov (.tmp 22), (some 174), none, [], none⟩,
  ⟨.mov (.tmp 19), (some 175), none, [], none⟩,
  ⟨.mov (.tmp 20), (some 176), none, [], none⟩,
  ⟨.build [(.v (.int .i64 0)), (.v (.int .i64 0)), (.v (.int .i64 0))] [(0, 1, (.tmp 174)), (1, 1, (.tmp 175)), (2, 1, (.tmp 176))], (some 177), none, [7, 8, 9], none⟩,
  ⟨.call 37 [(.tmp 173), (.tmp 177)], (some 178), none, [6, 10], none⟩,
  ⟨.mov (.tmp 16), (some 179), none, [], none⟩,
  ⟨.mov (.tmp 17), (some 180), none, [], none⟩,
  ⟨.mov (.tmp 16), (some 181), none, [], none⟩,
  ⟨.mov (.tmp 19), (some 182), none, [], none⟩,
  ⟨.bin .sub (.tmp 181) (.tmp 182), (some 183), none, [14, 15], none⟩,
  ⟨.call 36 [(.tmp 171), (.tmp 172), (.tmp 178), (.tmp 179), (.tmp 180), (.tmp 183)], (some 184), none, [4, 5, 11, 12, 13, 16, 11], none⟩,
  ⟨.idxAddr 4 (.tmp 167) (.tmp 170), (some 185), none, [0, 3, 0, 1, 2, 3, 4, 5, 6, 7, 8, 9, 10, 11, 12, 13, 14, 15, 16, 17], none⟩,
  ⟨.store 4 (.tmp 185) (.tmp 184), none, none, [18, 17, 17, 0, 1, 2, 3, 4, 5, 6, 7, 8, 9, 10, 11, 12, 13, 14, 15, 16, 17], none⟩]
def d13r22 : List RO := [
  ⟨.bin .add (.tmp 164) (.con (.v (.int .i64 1))), (some 186), none, [], none⟩,
  ⟨.mov (.tmp 186), (some 164), none, [0], none⟩]
def d13r23 : List RO := [
  ⟨.load 3 true (.tmp 13), (some 187), none, [], none⟩,
  ⟨.load 1 false (.tmp 15), (some 188), none, [], none⟩,
  ⟨.store 3 (.tmp 8) (.tmp 187), none, none, [0, 0], none⟩,
  ⟨.mov (.tmp 188), (some 9), none, [1, 2, 0, 1, 2], none⟩,
  ⟨.mov (.con (.v (.int .i64 0))), (some 10), none, [3, 0, 1, 2, 3], none⟩]
def d13 : DC := (.seq (.region false d13r0)
  (.seq (.region false d13r1)
  (.seq (.seq (.region false d13r2)
  (.cond (.tmp 53) (.seq (.region false d13r3)
  .ret)
  .skip))
  (.seq (.seq (.region true d13r4)
  (.cond (.tmp 95) (.seq (.region false d13r5)
  .ret)
  .skip))
  (.seq (.region false d13r6)
  (.seq (.region false d13r7)
  (.seq (.region false d13r8)
  (.seq (.region false d13r9)
  (.seq (.region false d13r10)
  (.seq (.seq (.region false d13r11)
  (.block 0 (.rangeF (.tmp 114) [115, 116] (.seq (.region false d13r12)
  (.region false d13r13))
  (.block 1 (.seq (.region false d13r14)
  (.seq (.region false d13r15)
  (.seq (.seq (.region false d13r16)
  (.cond (.tmp 145) (.seq (.regionT d13r17)
  (.exit 1))
  .skip))
  (.seq (.region false d13r18)
  (.block 2 (.loop (.seq (.region false d13r19)
  (.seq (.cond (.tmp 165) .skip
  (.exit 2))
  (.seq (.block 3 (.seq (.region false d13r20)
  (.region true d13r21)))
  (.region false d13r22))))))))))))))
  (.seq (.regionT d13r23)
  .ret)))))))))))
def d13res : List DRes := [.cell 8 3 true, .slot 9, .slot 10]
theorem c13 [Laid] : CodeOf Tryz.prog 13 189 d13 d13res := ⟨Tryz.f13, by kernel_rfl, by kernel_rfl, by kernel_rfl, by kernel_rfl, by kernel_rfl⟩
-- emendate/increment.spans
-- emendate/increment.spans$1
-- emendate/increment.origin
def d34r0 : List RO := [
  ⟨.box (.tmp 0), (some 4), none, [], none⟩,
  ⟨.mov (.con (.v (.int .i64 0))), (some 8), none, [], none⟩,
  ⟨.mov (.con (.v (.int .i64 0))), (some 9), none, [1], none⟩,
  ⟨.mov (.con (.v (.bool false))), (some 10), none, [2], none⟩]
def d34r1 : List RO := [
  ⟨.addOff 2 (.tmp 4), (some 17), none, [], none⟩,
  ⟨.load 1 false (.tmp 17), (some 18), none, [0], none⟩,
  ⟨.addOff 1 (.tmp 4), (some 19), none, [], none⟩,
  ⟨.load 1 false (.tmp 19), (some 20), none, [2], none⟩,
  ⟨.bin .sub (.tmp 18) (.tmp 20), (some 21), none, [1, 3], none⟩,
  ⟨.bin .mul (.con (.v (.int .i64 2))) (.tmp 21), (some 22), none, [4], none⟩,
  ⟨.mov (.tmp 22), (some 11), none, [5, 0, 1, 2, 3, 4, 5], none⟩]
def d34r2 : List RO := [
  ⟨.mov (.tmp 11), (some 23), none, [], none⟩,
  ⟨.bslice 2 1 [(.v (.int .i64 0)), (.v (.int .i64 0))] [(0, 1, (.con (.v (.int .i64 0)))), (1, 1, (.tmp 23))], (some 24), none, [0], none⟩,
  ⟨.len (.tmp 24), (some 25), none, [1], none⟩,
  ⟨.mov (.con (.v (.int .i64 0))), (some 26), none, [], none⟩]
def d34r3 : List RO := [
  ⟨.bin .lss (.tmp 26) (.tmp 25), (some 27), none, [], none⟩]
def d34r4 : List RO := [
  ⟨.idxAddr 1 (.tmp 24) (.tmp 26), (some 28), none, [], none⟩,
  ⟨.load 1 false (.tmp 28), (some 29), none, [0], none⟩,
  ⟨.mov (.tmp 29), (some 13), none, [1, 0, 1], none⟩]
def d34r5 : List RO := [
  ⟨.mov (.tmp 1), (some 30), none, [], none⟩,
  ⟨.mov (.tmp 13), (some 31), none, [], none⟩,
  ⟨.bin .sub (.tmp 30) (.tmp 31), (some 32), none, [0, 1], none⟩,
  ⟨.mov (.tmp 2), (some 33), none, [], none⟩,
  ⟨.mov (.tmp 13), (some 34), none, [], none⟩,
  ⟨.bin .sub (.tmp 33) (.tmp 34), (some 35), none, [3, 4], none⟩,
  ⟨.build [(.v (.int .i64 0)), (.v (.int .i64 0)), (.v (.int .i64 0))] [(1, 1, (.tmp 32)), (2, 1, (.tmp 35))], (some 36), none, [2, 5], none⟩,
  ⟨.alloc [(.v (.int .i64 0)), (.v (.int .i64 0)), (.v (.int .i64 0))], (some 14), none, [], none⟩,
  ⟨.store 3 (.tmp 14) (.tmp 36), none, none, [7, 6, 0, 1, 2, 3, 4, 5, 6, 7], none⟩]
def d34r6 : List RO := [
  ⟨.load 3 true (.tmp 14), (some 38), none, [], none⟩,
  ⟨.load 3 true (.tmp 4), (some 39), none, [], none⟩,
  ⟨.mov (.tmp 3), (some 40), none, [], none⟩,
  ⟨.call 18 [(.tmp 38), (.tmp 39), (.tmp 40)], (some 41), none, [0, 1, 2], none⟩,
  ⟨.mov (.tmp 41), (some 37), none, [3], none⟩,
  ⟨.extract 0 (.tmp 37), (some 42), none, [4], none⟩,
  ⟨.extract 1 (.tmp 37), (some 43), none, [4], none⟩,
  ⟨.alloc [(.v (.int .i64 0)), (.v (.int .i64 0)), (.v (.int .i64 0))], (some 15), none, [], none⟩,
  ⟨.store 3 (.tmp 15) (.tmp 42), none, none, [7, 5, 3, 0, 1, 2, 3, 4, 5, 7], none⟩,
  ⟨.mov (.tmp 43), (some 16), none, [6, 8, 0, 1, 2, 3, 4, 5, 6, 7, 8], none⟩]
def d34r7 : List RO := [
  ⟨.mov (.tmp 16), (some 44), none, [], none⟩,
  ⟨.mov (.tmp 44), (some 45), none, [0], none⟩,
  ⟨.addOff 1 (.tmp 15), (some 46), (some (45, true)), [1], none⟩,
  ⟨.load 1 false (.tmp 46), (some 47), (some (45, true)), [2, 1], none⟩,
  ⟨.mov (.tmp 1), (some 48), (some (45, true)), [1], none⟩,
  ⟨.bin .eql (.tmp 47) (.tmp 48), (some 49), (some (45, true)), [3, 4, 1], none⟩,
  ⟨.pick (.tmp 45) (.tmp 49) (.con (.v (.bool false))), (some 50), none, [1, 5], none⟩,
  ⟨.mov (.tmp 50), (some 51), none, [6, 1], none⟩,
  ⟨.addOff 2 (.tmp 15), (some 52), (some (51, true)), [7], none⟩,
  ⟨.load 1 false (.tmp 52), (some 53), (some (51, true)), [8, 7], none⟩,
  ⟨.mov (.tmp 2), (some 54), (some (51, true)), [7], none⟩,
  ⟨.bin .eql (.tmp 53) (.tmp 54), (some 55), (some (51, true)), [9, 10, 7], none⟩,
  ⟨.pick (.tmp 51) (.tmp 55) (.con (.v (.bool false))), (some 56), none, [7, 11], none⟩]
def d34r8 : List RO := [
  ⟨.addOff 1 (.tmp 14), (some 57), none, [], none⟩,
  ⟨.load 1 false (.tmp 57), (some 58), none, [0], none⟩,
  ⟨.addOff 2 (.tmp 14), (some 59), none, [], none⟩,
  ⟨.load 1 false (.tmp 59), (some 60), none, [2], none⟩,
  ⟨.mov (.tmp 58), (some 8), none, [1, 0, 1], none⟩,
  ⟨.mov (.tmp 60), (some 9), none, [3, 4, 0, 1, 2, 3, 4], none⟩,
  ⟨.mov (.con (.v (.bool true))), (some 10), none, [5, 0, 1, 2, 3, 4, 5], none⟩]
def d34r9 : List RO := [
  ⟨.bin .add (.tmp 26) (.con (.v (.int .i64 1))), (some 61), none, [], none⟩,
  ⟨.mov (.tmp 61), (some 26), none, [0], none⟩]
def d34r10 : List RO := [
  ⟨.mov (.con (.v (.int .i64 0))), (some 8), none, [], none⟩,
  ⟨.mov (.con (.v (.int .i64 0))), (some 9), none, [0, 0], none⟩,
  ⟨.mov (.con (.v (.bool false))), (some 10), none, [1, 0, 1], none⟩]
def d34 : DC := (.seq (.region false d34r0)
  (.seq (.region false d34r1)
  (.seq (.seq (.region false d34r2)
  (.block 0 (.loop (.seq (.region false d34r3)
  (.seq (.cond (.tmp 27) .skip
  (.exit 0))
  (.seq (.block 1 (.seq (.region false d34r4)
  (.seq (.region false d34r5)
  (.seq (.region false d34r6)
  (.seq (.region false d34r7)
  (.cond (.tmp 56) (.seq (.region true d34r8)
  .ret)
  .skip))))))
  (.region false d34r9)))))))
  (.seq (.region false d34r10)
  .ret))))
def d34res : List DRes := [.slot 8, .slot 9, .slot 10]
theorem c34 [Laid] : CodeOf Tryz.prog 34 62 d34 d34res := ⟨Tryz.f34, by kernel_rfl, by kernel_rfl, by kernel_rfl, by kernel_rfl, by kernel_rfl⟩
-- emendate/increment.moved
def d36r0 : List RO := [
  ⟨.box (.tmp 0), (some 6), none, [], none⟩,
  ⟨.box (.tmp 1), (some 7), none, [], none⟩,
  ⟨.box (.tmp 2), (some 8), none, [], none⟩,
  ⟨.alloc [(.v (.int .i64 0)), (.v (.int .i64 0)), (.v (.int .i64 0)), (.v (.int .i64 0))], (some 12), none, [], none⟩]
def d36r1 : List RO := [
  ⟨.addOff 2 (.tmp 8), (some 16), none, [], none⟩,
  ⟨.load 1 false (.tmp 16), (some 17), none, [0], none⟩,
  ⟨.bin .lss (.tmp 17) (.con (.v (.int .i64 0))), (some 18), none, [1], none⟩,
  ⟨.mov (.tmp 18), (some 19), none, [2], none⟩,
  ⟨.addOff 2 (.tmp 8), (some 20), (some (19, false)), [3], none⟩,
  ⟨.load 1 false (.tmp 20), (some 21), (some (19, false)), [4, 3], none⟩,
  ⟨.addOff 3 (.tmp 6), (some 22), (some (19, false)), [3], none⟩,
  ⟨.load 1 false (.tmp 22), (some 23), (some (19, false)), [6, 3], none⟩,
  ⟨.len (.tmp 23), (some 24), (some (19, false)), [7, 3], none⟩,
  ⟨.bin .geq (.tmp 21) (.tmp 24), (some 25), (some (19, false)), [5, 8, 3], none⟩,
  ⟨.pick (.tmp 19) (.con (.v (.bool true))) (.tmp 25), (some 26), none, [3, 9], none⟩]
def d36r2 : List RO := [
  ⟨.load 4 true (.tmp 8), (some 27), none, [], none⟩,
  ⟨.store 4 (.tmp 12) (.tmp 27), none, none, [0, 0], none⟩]
def d36r3 : List RO := [
  ⟨.addOff 3 (.tmp 6), (some 28), none, [], none⟩,
  ⟨.load 1 false (.tmp 28), (some 29), none, [0], none⟩,
  ⟨.addOff 2 (.tmp 8), (some 30), none, [], none⟩,
  ⟨.load 1 false (.tmp 30), (some 31), none, [2], none⟩,
  ⟨.idxAddr 6 (.tmp 29) (.tmp 31), (some 32), none, [1, 3], none⟩,
  ⟨.load 6 true (.tmp 32), (some 33), none, [4], none⟩,
  ⟨.alloc [(.v (.int .i64 0)), (.v (.int .i64 0)), (.v (.int .i64 0)), (.v (.int .i64 0)), (.v (.int .i64 0)), (.v (.int .i64 0))], (some 13), none, [], none⟩,
  ⟨.store 6 (.tmp 13) (.tmp 33), none, none, [6, 5, 0, 1, 2, 3, 4, 5, 6], none⟩]
def d36r4 : List RO := [
  ⟨.addOff 0 (.tmp 13), (some 34), none, [], none⟩,
  ⟨.load 1 false (.tmp 34), (some 35), none, [0], none⟩,
  ⟨.bin .neq (.tmp 35) (.con (.v (.int .i64 2))), (some 36), none, [1], none⟩]
def d36r5 : List RO := [
  ⟨.addOff 3 (.tmp 8), (some 37), none, [], none⟩,
  ⟨.load 1 false (.tmp 37), (some 38), none, [0], none⟩,
  ⟨.mov (.tmp 5), (some 39), none, [], none⟩,
  ⟨.bin .add (.tmp 38) (.tmp 39), (some 40), none, [1, 2], none⟩,
  ⟨.addOff 3 (.tmp 8), (some 41), none, [0, 1, 2, 3], none⟩,
  ⟨.store 1 (.tmp 41) (.tmp 40), none, none, [4, 3, 0, 1, 2, 3], none⟩]
def d36r6 : List RO := [
  ⟨.load 4 true (.tmp 8), (some 42), none, [], none⟩,
  ⟨.store 4 (.tmp 12) (.tmp 42), none, none, [0, 0], none⟩]
def d36r7 : List RO := [
  ⟨.addOff 1 (.tmp 7), (some 43), none, [], none⟩,
  ⟨.load 1 false (.tmp 43), (some 44), none, [0], none⟩,
  ⟨.len (.tmp 44), (some 45), none, [1], none⟩,
  ⟨.mov (.con (.v (.int .i64 0))), (some 46), none, [], none⟩]
def d36r8 : List RO := [
  ⟨.bin .lss (.tmp 46) (.tmp 45), (some 47), none, [], none⟩]
def d36r9 : List RO := [
  ⟨.mov (.tmp 46), (some 48), none, [], none⟩,
  ⟨.idxAddr 5 (.tmp 44) (.tmp 46), (some 49), none, [], none⟩,
  ⟨.load 5 true (.tmp 49), (some 50), none, [1], none⟩,
  ⟨.alloc [(.v (.int .i64 0)), (.v (.int .i64 0)), (.v (.int .i64 0)), (.v (.int .i64 0)), .nil0], (some 15), none, [], none⟩,
  ⟨.mov (.tmp 48), (some 14), none, [0, 0, 1, 2, 3], none⟩,
  ⟨.store 5 (.tmp 15) (.tmp 50), none, none, [3, 2, 4, 0, 1, 2, 3, 4], none⟩]
def d36r10 : List RO := [
  ⟨.addOff 0 (.tmp 15), (some 51), none, [], none⟩,
  ⟨.load 1 false (.tmp 51), (some 52), none, [0], none⟩,
  ⟨.mov (.tmp 3), (some 53), none, [], none⟩,
  ⟨.bin .eql (.tmp 52) (.tmp 53), (some 54), none, [1, 2], none⟩,
  ⟨.mov (.tmp 54), (some 55), none, [3], none⟩,
  ⟨.addOff 1 (.tmp 15), (some 56), (some (55, true)), [4], none⟩,
  ⟨.load 1 false (.tmp 56), (some 57), (some (55, true)), [5, 4], none⟩,
  ⟨.mov (.tmp 4), (some 58), (some (55, true)), [4], none⟩,
  ⟨.bin .eql (.tmp 57) (.tmp 58), (some 59), (some (55, true)), [6, 7, 4], none⟩,
  ⟨.pick (.tmp 55) (.tmp 59) (.con (.v (.bool false))), (some 60), none, [4, 8], none⟩,
  ⟨.mov (.tmp 60), (some 61), none, [9, 4], none⟩,
  ⟨.addOff 2 (.tmp 15), (some 62), (some (61, true)), [10], none⟩,
  ⟨.load 1 false (.tmp 62), (some 63), (some (61, true)), [11, 10], none⟩,
  ⟨.addOff 2 (.tmp 13), (some 64), (some (61, true)), [10], none⟩,
  ⟨.load 1 false (.tmp 64), (some 65), (some (61, true)), [13, 10], none⟩,
  ⟨.bin .eql (.tmp 63) (.tmp 65), (some 66), (some (61, true)), [12, 14, 10], none⟩,
  ⟨.pick (.tmp 61) (.tmp 66) (.con (.v (.bool false))), (some 67), none, [10, 15], none⟩]
def d36r11 : List RO := [
  ⟨.mov (.tmp 14), (some 68), none, [], none⟩,
  ⟨.addOff 3 (.tmp 8), (some 69), none, [0], none⟩,
  ⟨.store 1 (.tmp 69) (.tmp 68), none, none, [1, 0, 0], none⟩]
def d36r12 : List RO := [
  ⟨.bin .add (.tmp 46) (.con (.v (.int .i64 1))), (some 70), none, [], none⟩,
  ⟨.mov (.tmp 70), (some 46), none, [0], none⟩]
def d36r13 : List RO := [
  ⟨.load 4 true (.tmp 8), (some 71), none, [], none⟩,
  ⟨.store 4 (.tmp 12) (.tmp 71), none, none, [0, 0], none⟩]
def d36 : DC := (.seq (.region false d36r0)
  (.seq (.seq (.region false d36r1)
  (.cond (.tmp 26) (.seq (.region false d36r2)
  .ret)
  .skip))
  (.seq (.region false d36r3)
  (.seq (.seq (.region false d36r4)
  (.cond (.tmp 36) (.seq (.region false d36r5)
  (.seq (.region false d36r6)
  .ret))
  .skip))
  (.seq (.seq (.region false d36r7)
  (.block 0 (.loop (.seq (.region false d36r8)
  (.seq (.cond (.tmp 47) .skip
  (.exit 0))
  (.seq (.block 1 (.seq (.region false d36r9)
  (.seq (.region false d36r10)
  (.cond (.tmp 67) (.region false d36r11)
  .skip))))
  (.region false d36r12)))))))
  (.seq (.region false d36r13)
  .ret))))))
def d36res : List DRes := [.cell 12 4 true]
theorem c36 [Laid] : CodeOf Tryz.prog 36 72 d36 d36res := ⟨Tryz.f36, by kernel_rfl, by kernel_rfl, by kernel_rfl, by kernel_rfl, by kernel_rfl⟩
-- emendate/emendatelaw43.IncrementEqualsScratch
def d3r0 : List RO := [
  ⟨.box (.tmp 0), (some 1), none, [], none⟩,
  ⟨.mov (.con (.v (.bool false))), (some 2), none, [], none⟩]
def d3r1 : List RO := [
  ⟨.load 10 true (.tmp 1), (some 10), none, [], none⟩,
  ⟨.call 9 [(.tmp 10)], (some 11), none, [0], none⟩,
  ⟨.un .not (.tmp 11), (some 12), none, [1], none⟩]
def d3r2 : List RO := [
  ⟨.call 10 [], (some 13), none, [], none⟩,
  ⟨.mov (.tmp 13), (some 2), none, [0, 0, 0], none⟩]
def d3r3 : List RO := [
  ⟨.addOff 0 (.tmp 1), (some 14), none, [], none⟩,
  ⟨.load 4 true (.tmp 14), (some 15), none, [0], none⟩,
  ⟨.addOff 4 (.tmp 1), (some 16), none, [], none⟩,
  ⟨.load 3 true (.tmp 16), (some 17), none, [2], none⟩,
  ⟨.call 12 [(.tmp 17)], (some 18), none, [3], none⟩,
  ⟨.call 11 [(.tmp 15), (.tmp 18)], (some 19), none, [1, 4, 4], none⟩,
  ⟨.alloc [(.v (.int .i64 0)), (.v (.int .i64 0)), .nil0], (some 3), none, [], none⟩,
  ⟨.store 3 (.tmp 3) (.tmp 19), none, none, [6, 5, 5, 0, 1, 2, 3, 4, 5, 6], none⟩]
def d3r4 : List RO := [
  ⟨.addOff 0 (.tmp 1), (some 21), none, [], none⟩,
  ⟨.load 4 true (.tmp 21), (some 22), none, [0], none⟩,
  ⟨.load 3 true (.tmp 3), (some 23), none, [], none⟩,
  ⟨.load 10 true (.tmp 1), (some 24), none, [], none⟩,
  ⟨.call 14 [(.tmp 24)], (some 25), none, [3], none⟩,
  ⟨.load 10 true (.tmp 1), (some 26), none, [], none⟩,
  ⟨.call 15 [(.tmp 26)], (some 27), none, [5, 4], none⟩,
  ⟨.call 13 [(.tmp 22), (.tmp 23), (.tmp 25), (.tmp 27)], (some 28), none, [1, 2, 4, 6, 6], none⟩,
  ⟨.mov (.tmp 28), (some 20), none, [7], none⟩,
  ⟨.extract 0 (.tmp 20), (some 29), none, [8], none⟩,
  ⟨.extract 1 (.tmp 20), (some 30), none, [8], none⟩,
  ⟨.extract 2 (.tmp 20), (some 31), none, [8], none⟩,
  ⟨.alloc [(.v (.int .i64 0)), (.v (.int .i64 0)), .nil0], (some 4), none, [], none⟩,
  ⟨.store 3 (.tmp 4) (.tmp 29), none, none, [12, 9, 7, 0, 1, 2, 3, 4, 5, 6, 7, 8, 9, 12], none⟩,
  ⟨.mov (.tmp 30), (some 5), none, [10, 13, 0, 1, 2, 3, 4, 5, 6, 7, 8, 9, 10, 12, 13], none⟩,
  ⟨.mov (.tmp 31), (some 6), none, [11, 14, 0, 1, 2, 3, 4, 5, 6, 7, 8, 9, 10, 11, 12, 13, 14], none⟩]
def d3r5 : List RO := [
  ⟨.addOff 0 (.tmp 1), (some 33), none, [], none⟩,
  ⟨.load 4 true (.tmp 33), (some 34), none, [0], none⟩,
  ⟨.load 3 true (.tmp 3), (some 35), none, [], none⟩,
  ⟨.load 10 true (.tmp 1), (some 36), none, [], none⟩,
  ⟨.call 14 [(.tmp 36)], (some 37), none, [3], none⟩,
  ⟨.load 10 true (.tmp 1), (some 38), none, [], none⟩,
  ⟨.call 15 [(.tmp 38)], (some 39), none, [5, 4], none⟩,
  ⟨.call 16 [(.tmp 34), (.tmp 35), (.tmp 37), (.tmp 39)], (some 40), none, [1, 2, 4, 6, 6], none⟩,
  ⟨.mov (.tmp 40), (some 32), none, [7], none⟩,
  ⟨.extract 0 (.tmp 32), (some 41), none, [8], none⟩,
  ⟨.extract 1 (.tmp 32), (some 42), none, [8], none⟩,
  ⟨.extract 2 (.tmp 32), (some 43), none, [8], none⟩,
  ⟨.alloc [(.v (.int .i64 0)), (.v (.int .i64 0)), .nil0], (some 7), none, [], none⟩,
  ⟨.store 3 (.tmp 7) (.tmp 41), none, none, [12, 9, 7, 0, 1, 2, 3, 4, 5, 6, 7, 8, 9, 12], none⟩,
  ⟨.mov (.tmp 42), (some 8), none, [10, 13, 0, 1, 2, 3, 4, 5, 6, 7, 8, 9, 10, 12, 13], none⟩,
  ⟨.mov (.tmp 43), (some 9), none, [11, 14, 0, 1, 2, 3, 4, 5, 6, 7, 8, 9, 10, 11, 12, 13, 14], none⟩]
def d3r6 : List RO := [
  ⟨.call 10 [], (some 44), none, [], none⟩,
  ⟨.mov (.tmp 44), (some 45), none, [0, 0], none⟩,
  ⟨.mov (.tmp 6), (some 46), (some (45, true)), [1], none⟩,
  ⟨.mov (.tmp 9), (some 47), (some (45, true)), [1], none⟩,
  ⟨.bin .eql (.tmp 46) (.tmp 47), (some 48), (some (45, true)), [2, 3, 1], none⟩,
  ⟨.pick (.tmp 45) (.tmp 48) (.con (.v (.bool false))), (some 49), none, [1, 4], none⟩,
  ⟨.mov (.tmp 49), (some 50), none, [5, 1], none⟩,
  ⟨.mov (.tmp 5), (some 51), (some (50, true)), [6], none⟩,
  ⟨.mov (.tmp 8), (some 52), (some (50, true)), [6], none⟩,
  ⟨.bin .eql (.tmp 51) (.tmp 52), (some 53), (some (50, true)), [7, 8, 6], none⟩,
  ⟨.pick (.tmp 50) (.tmp 53) (.con (.v (.bool false))), (some 54), none, [6, 9], none⟩,
  ⟨.mov (.tmp 54), (some 55), none, [10, 6], none⟩,
  ⟨.load 3 true (.tmp 4), (some 56), (some (55, true)), [11], none⟩,
  ⟨.load 3 true (.tmp 7), (some 57), (some (55, true)), [11], none⟩,
  ⟨.call 17 [(.tmp 56), (.tmp 57)], (some 58), (some (55, true)), [12, 13, 11, 11], none⟩,
  ⟨.pick (.tmp 55) (.tmp 58) (.con (.v (.bool false))), (some 59), none, [11, 14], none⟩,
  ⟨.mov (.tmp 59), (some 2), none, [15, 14, 0, 1, 2, 3, 4, 5, 6, 7, 8, 9, 10, 11, 12, 13, 14, 15], none⟩]
def d3 : DC := (.seq (.region false d3r0)
  (.seq (.seq (.region false d3r1)
  (.cond (.tmp 12) (.seq (.region false d3r2)
  .ret)
  .skip))
  (.seq (.region true d3r3)
  (.seq (.region true d3r4)
  (.seq (.region true d3r5)
  (.seq (.region false d3r6)
  .ret))))))
def d3res : List DRes := [.slot 2]
theorem c3 [Laid] : CodeOf Tryz.prog 3 60 d3 d3res := ⟨Tryz.f3, by kernel_rfl, by kernel_rfl, by kernel_rfl, by kernel_rfl, by kernel_rfl⟩
-- emendate/emendatelaw43.IncrementTwice
def d4r0 : List RO := [
  ⟨.box (.tmp 0), (some 1), none, [], none⟩,
  ⟨.mov (.con (.v (.bool false))), (some 2), none, [], none⟩]
def d4r1 : List RO := [
  ⟨.load 10 true (.tmp 1), (some 10), none, [], none⟩,
  ⟨.call 9 [(.tmp 10)], (some 11), none, [0], none⟩,
  ⟨.un .not (.tmp 11), (some 12), none, [1], none⟩]
def d4r2 : List RO := [
  ⟨.call 10 [], (some 13), none, [], none⟩,
  ⟨.mov (.tmp 13), (some 2), none, [0, 0, 0], none⟩]
def d4r3 : List RO := [
  ⟨.addOff 0 (.tmp 1), (some 14), none, [], none⟩,
  ⟨.load 4 true (.tmp 14), (some 15), none, [0], none⟩,
  ⟨.addOff 4 (.tmp 1), (some 16), none, [], none⟩,
  ⟨.load 3 true (.tmp 16), (some 17), none, [2], none⟩,
  ⟨.call 12 [(.tmp 17)], (some 18), none, [3], none⟩,
  ⟨.call 11 [(.tmp 15), (.tmp 18)], (some 19), none, [1, 4, 4], none⟩,
  ⟨.alloc [(.v (.int .i64 0)), (.v (.int .i64 0)), .nil0], (some 3), none, [], none⟩,
  ⟨.store 3 (.tmp 3) (.tmp 19), none, none, [6, 5, 5, 0, 1, 2, 3, 4, 5, 6], none⟩]
def d4r4 : List RO := [
  ⟨.addOff 0 (.tmp 1), (some 21), none, [], none⟩,
  ⟨.load 4 true (.tmp 21), (some 22), none, [0], none⟩,
  ⟨.load 3 true (.tmp 3), (some 23), none, [], none⟩,
  ⟨.load 10 true (.tmp 1), (some 24), none, [], none⟩,
  ⟨.call 14 [(.tmp 24)], (some 25), none, [3], none⟩,
  ⟨.load 10 true (.tmp 1), (some 26), none, [], none⟩,
  ⟨.call 15 [(.tmp 26)], (some 27), none, [5, 4], none⟩,
  ⟨.call 13 [(.tmp 22), (.tmp 23), (.tmp 25), (.tmp 27)], (some 28), none, [1, 2, 4, 6, 6], none⟩,
  ⟨.mov (.tmp 28), (some 20), none, [7], none⟩,
  ⟨.extract 0 (.tmp 20), (some 29), none, [8], none⟩,
  ⟨.extract 1 (.tmp 20), (some 30), none, [8], none⟩,
  ⟨.extract 2 (.tmp 20), (some 31), none, [8], none⟩,
  ⟨.alloc [(.v (.int .i64 0)), (.v (.int .i64 0)), .nil0], (some 4), none, [], none⟩,
  ⟨.store 3 (.tmp 4) (.tmp 29), none, none, [12, 9, 7, 0, 1, 2, 3, 4, 5, 6, 7, 8, 9, 12], none⟩,
  ⟨.mov (.tmp 30), (some 5), none, [10, 13, 0, 1, 2, 3, 4, 5, 6, 7, 8, 9, 10, 12, 13], none⟩,
  ⟨.mov (.tmp 31), (some 6), none, [11, 14, 0, 1, 2, 3, 4, 5, 6, 7, 8, 9, 10, 11, 12, 13, 14], none⟩]
def d4r5 : List RO := [
  ⟨.addOff 0 (.tmp 1), (some 33), none, [], none⟩,
  ⟨.load 4 true (.tmp 33), (some 34), none, [0], none⟩,
  ⟨.load 3 true (.tmp 4), (some 35), none, [], none⟩,
  ⟨.addOff 4 (.tmp 1), (some 36), none, [], none⟩,
  ⟨.load 3 true (.tmp 36), (some 37), none, [3], none⟩,
  ⟨.addOff 7 (.tmp 1), (some 38), none, [], none⟩,
  ⟨.load 1 false (.tmp 38), (some 39), none, [5], none⟩,
  ⟨.addOff 9 (.tmp 1), (some 40), none, [], none⟩,
  ⟨.load 1 false (.tmp 40), (some 41), none, [7], none⟩,
  ⟨.len (.tmp 41), (some 42), none, [8], none⟩,
  ⟨.addOff 8 (.tmp 1), (some 43), none, [], none⟩,
  ⟨.load 1 false (.tmp 43), (some 44), none, [10], none⟩,
  ⟨.build [(.v (.int .i64 0)), (.v (.int .i64 0)), (.v (.int .i64 0))] [(0, 1, (.tmp 39)), (1, 1, (.tmp 42)), (2, 1, (.tmp 44))], (some 45), none, [6, 9, 11], none⟩,
  ⟨.call 13 [(.tmp 34), (.tmp 35), (.tmp 37), (.tmp 45)], (some 46), none, [1, 2, 4, 12], none⟩,
  ⟨.mov (.tmp 46), (some 32), none, [13], none⟩,
  ⟨.extract 0 (.tmp 32), (some 47), none, [14], none⟩,
  ⟨.extract 1 (.tmp 32), (some 48), none, [14], none⟩,
  ⟨.extract 2 (.tmp 32), (some 49), none, [14], none⟩,
  ⟨.alloc [(.v (.int .i64 0)), (.v (.int .i64 0)), .nil0], (some 7), none, [], none⟩,
  ⟨.store 3 (.tmp 7) (.tmp 47), none, none, [18, 15, 13, 0, 1, 2, 3, 4, 5, 6, 7, 8, 9, 10, 11, 12, 13, 14, 15, 18], none⟩,
  ⟨.mov (.tmp 48), (some 8), none, [16, 19, 0, 1, 2, 3, 4, 5, 6, 7, 8, 9, 10, 11, 12, 13, 14, 15, 16, 18, 19], none⟩,
  ⟨.mov (.tmp 49), (some 9), none, [17, 20, 0, 1, 2, 3, 4, 5, 6, 7, 8, 9, 10, 11, 12, 13, 14, 15, 16, 17, 18, 19, 20], none⟩]
def d4r6 : List RO := [
  ⟨.call 10 [], (some 50), none, [], none⟩,
  ⟨.mov (.tmp 50), (some 51), none, [0, 0], none⟩,
  ⟨.mov (.tmp 6), (some 52), (some (51, true)), [1], none⟩,
  ⟨.bin .eql (.tmp 52) (.con (.v (.int .i64 0))), (some 53), (some (51, true)), [2, 1], none⟩,
  ⟨.pick (.tmp 51) (.tmp 53) (.con (.v (.bool false))), (some 54), none, [1, 3], none⟩,
  ⟨.mov (.tmp 54), (some 55), none, [4, 1], none⟩,
  ⟨.mov (.tmp 9), (some 56), (some (55, true)), [5], none⟩,
  ⟨.bin .eql (.tmp 56) (.con (.v (.int .i64 0))), (some 57), (some (55, true)), [6, 5], none⟩,
  ⟨.pick (.tmp 55) (.tmp 57) (.con (.v (.bool false))), (some 58), none, [5, 7], none⟩,
  ⟨.mov (.tmp 58), (some 59), none, [8, 5], none⟩,
  ⟨.load 3 true (.tmp 7), (some 60), (some (59, true)), [9], none⟩,
  ⟨.load 3 true (.tmp 3), (some 61), (some (59, true)), [9], none⟩,
  ⟨.call 17 [(.tmp 60), (.tmp 61)], (some 62), (some (59, true)), [10, 11, 9, 9], none⟩,
  ⟨.pick (.tmp 59) (.tmp 62) (.con (.v (.bool false))), (some 63), none, [9, 12], none⟩,
  ⟨.mov (.tmp 63), (some 2), none, [13, 12, 0, 1, 2, 3, 4, 5, 6, 7, 8, 9, 10, 11, 12, 13], none⟩]
def d4 : DC := (.seq (.region false d4r0)
  (.seq (.seq (.region false d4r1)
  (.cond (.tmp 12) (.seq (.region false d4r2)
  .ret)
  .skip))
  (.seq (.region true d4r3)
  (.seq (.region true d4r4)
  (.seq (.region false d4r5)
  (.seq (.region false d4r6)
  .ret))))))
def d4res : List DRes := [.slot 2]
theorem c4 [Laid] : CodeOf Tryz.prog 4 64 d4 d4res := ⟨Tryz.f4, by kernel_rfl, by kernel_rfl, by kernel_rfl, by kernel_rfl, by kernel_rfl⟩
-- emendate/emendatelaw43.IncrementNothing
-- emendate/emendatelaw43.IncrementSaves
end Inc
end Go.Proofs
