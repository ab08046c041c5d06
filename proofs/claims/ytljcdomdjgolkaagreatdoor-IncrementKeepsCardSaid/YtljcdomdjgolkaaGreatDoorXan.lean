/- Valid. Conditions: none. -/
import Derived.Test.YtljcdomdjgolkaaGreatDoorXah
import Derived.KernelRfl
import Derived.Test.YtljcdomdjgolkaaGreatDoorXag
import Derived.Test.YtljcdomdjgolkaaGreatDoorXai
import Derived.Test.YtljcdomdjgolkaaGreatDoorXam
set_option maxRecDepth 100000

namespace Go.Proofs
open Go.DM

-- emendate/emendateref35.Valid
def d28r0 : List RO := [
  ⟨.box (.tmp 0), (some 2), none, [], none⟩,
  ⟨.mov (.con (.v (.bool false))), (some 4), none, [], none⟩]
def d28r1 : List RO := [
  ⟨.mov (.tmp 1), (some 6), none, [], none⟩,
  ⟨.bin .lss (.tmp 6) (.con (.v (.int .i64 0))), (some 7), none, [0], none⟩,
  ⟨.mov (.tmp 7), (some 8), none, [1], none⟩,
  ⟨.addOff 0 (.tmp 2), (some 9), (some (8, false)), [2], none⟩,
  ⟨.load 1 false (.tmp 9), (some 10), (some (8, false)), [3, 2], none⟩,
  ⟨.len (.tmp 10), (some 11), (some (8, false)), [4, 2], none⟩,
  ⟨.bin .gtr (.tmp 11) (.con (.v (.int .i64 60))), (some 12), (some (8, false)), [5, 2], none⟩,
  ⟨.pick (.tmp 8) (.con (.v (.bool true))) (.tmp 12), (some 13), none, [2, 6], none⟩,
  ⟨.mov (.tmp 13), (some 14), none, [7, 2], none⟩,
  ⟨.addOff 1 (.tmp 2), (some 15), (some (14, false)), [8], none⟩,
  ⟨.load 1 false (.tmp 15), (some 16), (some (14, false)), [9, 8], none⟩,
  ⟨.len (.tmp 16), (some 17), (some (14, false)), [10, 8], none⟩,
  ⟨.mov (.tmp 1), (some 18), (some (14, false)), [8], none⟩,
  ⟨.bin .neq (.tmp 17) (.tmp 18), (some 19), (some (14, false)), [11, 12, 8], none⟩,
  ⟨.pick (.tmp 14) (.con (.v (.bool true))) (.tmp 19), (some 20), none, [8, 13], none⟩,
  ⟨.mov (.tmp 20), (some 21), none, [14, 8], none⟩,
  ⟨.addOff 2 (.tmp 2), (some 22), (some (21, false)), [15], none⟩,
  ⟨.load 1 false (.tmp 22), (some 23), (some (21, false)), [16, 15], none⟩,
  ⟨.bin .lss (.tmp 23) (.con (.v (.int .i64 0))), (some 24), (some (21, false)), [17, 15], none⟩,
  ⟨.pick (.tmp 21) (.con (.v (.bool true))) (.tmp 24), (some 25), none, [15, 18], none⟩,
  ⟨.mov (.tmp 25), (some 26), none, [19, 15], none⟩,
  ⟨.addOff 2 (.tmp 2), (some 27), (some (26, false)), [20], none⟩,
  ⟨.load 1 false (.tmp 27), (some 28), (some (26, false)), [21, 20], none⟩,
  ⟨.bin .gtr (.tmp 28) (.con (.v (.int .i64 60000))), (some 29), (some (26, false)), [22, 20], none⟩,
  ⟨.pick (.tmp 26) (.con (.v (.bool true))) (.tmp 29), (some 30), none, [20, 23], none⟩,
  ⟨.mov (.tmp 30), (some 31), none, [24, 20], none⟩,
  ⟨.addOff 0 (.tmp 2), (some 32), (some (31, false)), [25], none⟩,
  ⟨.load 1 false (.tmp 32), (some 33), (some (31, false)), [26, 25], none⟩,
  ⟨.mov (.tmp 1), (some 34), (some (31, false)), [25], none⟩,
  ⟨.call 43 [(.tmp 33), (.tmp 34)], (some 35), (some (31, false)), [27, 28, 25, 25], none⟩,
  ⟨.un .not (.tmp 35), (some 36), (some (31, false)), [29, 25], none⟩,
  ⟨.pick (.tmp 31) (.con (.v (.bool true))) (.tmp 36), (some 37), none, [25, 30], none⟩]
def d28r2 : List RO := [
  ⟨.mov (.con (.v (.bool false))), (some 4), none, [], none⟩]
def d28r3 : List RO := [
  ⟨.mov (.con (.v (.int .i64 0))), (some 5), none, [], none⟩]
def d28r4 : List RO := [
  ⟨.mov (.tmp 5), (some 38), none, [], none⟩,
  ⟨.mov (.tmp 1), (some 39), none, [], none⟩,
  ⟨.bin .lss (.tmp 38) (.tmp 39), (some 40), none, [0, 1], none⟩]
def d28r5 : List RO := [
  ⟨.addOff 1 (.tmp 2), (some 43), none, [], none⟩,
  ⟨.load 1 false (.tmp 43), (some 44), none, [0], none⟩,
  ⟨.mov (.tmp 5), (some 45), none, [], none⟩,
  ⟨.idxAddr 1 (.tmp 44) (.tmp 45), (some 46), none, [1, 2], none⟩,
  ⟨.load 1 false (.tmp 46), (some 47), none, [3], none⟩,
  ⟨.bin .lss (.tmp 47) (.con (.v (.int .i64 1))), (some 48), none, [4], none⟩,
  ⟨.mov (.tmp 48), (some 49), none, [5], none⟩,
  ⟨.addOff 1 (.tmp 2), (some 50), (some (49, false)), [6], none⟩,
  ⟨.load 1 false (.tmp 50), (some 51), (some (49, false)), [7, 6], none⟩,
  ⟨.mov (.tmp 5), (some 52), (some (49, false)), [6], none⟩,
  ⟨.idxAddr 1 (.tmp 51) (.tmp 52), (some 53), (some (49, false)), [8, 9, 6], none⟩,
  ⟨.load 1 false (.tmp 53), (some 54), (some (49, false)), [10, 6], none⟩,
  ⟨.bin .gtr (.tmp 54) (.con (.v (.int .i64 60000))), (some 55), (some (49, false)), [11, 6], none⟩,
  ⟨.pick (.tmp 49) (.con (.v (.bool true))) (.tmp 55), (some 56), none, [6, 12], none⟩]
def d28r6 : List RO := [
  ⟨.mov (.con (.v (.bool false))), (some 4), none, [], none⟩]
def d28r7 : List RO := [
  ⟨.mov (.tmp 5), (some 41), none, [], none⟩,
  ⟨.bin .add (.tmp 41) (.con (.v (.int .i64 1))), (some 42), none, [0], none⟩,
  ⟨.mov (.tmp 42), (some 5), none, [1, 0, 1], none⟩]
def d28r8 : List RO := [
  ⟨.mov (.con (.v (.bool true))), (some 4), none, [], none⟩]
def d28 : DC := (.seq (.region false d28r0)
  (.seq (.seq (.region false d28r1)
  (.cond (.tmp 37) (.seq (.region false d28r2)
  .ret)
  .skip))
  (.seq (.seq (.region false d28r3)
  (.block 0 (.loop (.seq (.seq (.region false d28r4)
  (.cond (.tmp 40) .skip
  (.exit 0)))
  (.seq (.block 1 (.seq (.region false d28r5)
  (.cond (.tmp 56) (.seq (.region false d28r6)
  .ret)
  .skip)))
  (.region false d28r7))))))
  (.seq (.region false d28r8)
  .ret))))
def d28res : List DRes := [.slot 4]
theorem c28 [Laid] : CodeOf Tryz.prog 21 57 d28 d28res := ⟨Tryz.f21, by kernel_rfl, by kernel_rfl, by kernel_rfl, by kernel_rfl, by kernel_rfl⟩
-- emendate/emendateref35.columns
def d45r0 : List RO := [
  ⟨.mov (.con (.v (.bool false))), (some 4), none, [], none⟩]
def d45r1 : List RO := [
  ⟨.mov (.con (.v (.int .i64 0))), (some 5), none, [], none⟩]
def d45r2 : List RO := [
  ⟨.mov (.tmp 5), (some 6), none, [], none⟩,
  ⟨.mov (.tmp 0), (some 7), none, [], none⟩,
  ⟨.len (.tmp 7), (some 8), none, [1], none⟩,
  ⟨.bin .lss (.tmp 6) (.tmp 8), (some 9), none, [0, 2], none⟩]
def d45r3 : List RO := [
  ⟨.mov (.tmp 0), (some 12), none, [], none⟩,
  ⟨.mov (.tmp 5), (some 13), none, [], none⟩,
  ⟨.idxAddr 3 (.tmp 12) (.tmp 13), (some 14), none, [0, 1], none⟩,
  ⟨.load 3 true (.tmp 14), (some 15), none, [2], none⟩,
  ⟨.mov (.tmp 1), (some 16), none, [], none⟩,
  ⟨.call 65 [(.tmp 15), (.tmp 16)], (some 17), none, [3, 4], none⟩,
  ⟨.un .not (.tmp 17), (some 18), none, [5], none⟩]
def d45r4 : List RO := [
  ⟨.mov (.con (.v (.bool false))), (some 4), none, [], none⟩]
def d45r5 : List RO := [
  ⟨.mov (.tmp 5), (some 10), none, [], none⟩,
  ⟨.bin .add (.tmp 10) (.con (.v (.int .i64 1))), (some 11), none, [0], none⟩,
  ⟨.mov (.tmp 11), (some 5), none, [1, 0, 1], none⟩]
def d45r6 : List RO := [
  ⟨.mov (.con (.v (.bool true))), (some 4), none, [], none⟩]
def d45 : DC := (.seq (.region false d45r0)
  (.seq (.seq (.region false d45r1)
  (.block 0 (.loop (.seq (.seq (.region false d45r2)
  (.cond (.tmp 9) .skip
  (.exit 0)))
  (.seq (.block 1 (.seq (.region false d45r3)
  (.cond (.tmp 18) (.seq (.region false d45r4)
  .ret)
  .skip)))
  (.region false d45r5))))))
  (.seq (.region false d45r6)
  .ret)))
def d45res : List DRes := [.slot 4]
theorem c45 [Laid] : CodeOf Tryz.prog 43 19 d45 d45res := ⟨Tryz.f43, by kernel_rfl, by kernel_rfl, by kernel_rfl, by kernel_rfl, by kernel_rfl⟩
-- emendate/emendateref35.Column
def d58r0 : List RO := [
  ⟨.box (.tmp 0), (some 2), none, [], none⟩,
  ⟨.mov (.con (.v (.bool false))), (some 4), none, [], none⟩]
def d58r1 : List RO := [
  ⟨.addOff 0 (.tmp 2), (some 7), none, [], none⟩,
  ⟨.load 1 false (.tmp 7), (some 8), none, [0], none⟩,
  ⟨.bin .lss (.tmp 8) (.con (.v (.int .i64 (-1)))), (some 9), none, [1], none⟩,
  ⟨.mov (.tmp 9), (some 10), none, [2], none⟩,
  ⟨.addOff 0 (.tmp 2), (some 11), (some (10, false)), [3], none⟩,
  ⟨.load 1 false (.tmp 11), (some 12), (some (10, false)), [4, 3], none⟩,
  ⟨.mov (.tmp 1), (some 13), (some (10, false)), [3], none⟩,
  ⟨.bin .geq (.tmp 12) (.tmp 13), (some 14), (some (10, false)), [5, 6, 3], none⟩,
  ⟨.pick (.tmp 10) (.con (.v (.bool true))) (.tmp 14), (some 15), none, [3, 7], none⟩,
  ⟨.mov (.tmp 15), (some 16), none, [8, 3], none⟩,
  ⟨.addOff 1 (.tmp 2), (some 17), (some (16, false)), [9], none⟩,
  ⟨.load 1 false (.tmp 17), (some 18), (some (16, false)), [10, 9], none⟩,
  ⟨.len (.tmp 18), (some 19), (some (16, false)), [11, 9], none⟩,
  ⟨.mov (.tmp 1), (some 20), (some (16, false)), [9], none⟩,
  ⟨.bin .neq (.tmp 19) (.tmp 20), (some 21), (some (16, false)), [12, 13, 9], none⟩,
  ⟨.pick (.tmp 16) (.con (.v (.bool true))) (.tmp 21), (some 22), none, [9, 14], none⟩,
  ⟨.mov (.tmp 22), (some 23), none, [15, 9], none⟩,
  ⟨.addOff 2 (.tmp 2), (some 24), (some (23, false)), [16], none⟩,
  ⟨.load 1 false (.tmp 24), (some 25), (some (23, false)), [17, 16], none⟩,
  ⟨.bin .lss (.tmp 25) (.con (.v (.int .i64 1))), (some 26), (some (23, false)), [18, 16], none⟩,
  ⟨.pick (.tmp 23) (.con (.v (.bool true))) (.tmp 26), (some 27), none, [16, 19], none⟩,
  ⟨.mov (.tmp 27), (some 28), none, [20, 16], none⟩,
  ⟨.addOff 2 (.tmp 2), (some 29), (some (28, false)), [21], none⟩,
  ⟨.load 1 false (.tmp 29), (some 30), (some (28, false)), [22, 21], none⟩,
  ⟨.bin .gtr (.tmp 30) (.con (.v (.int .i64 60000))), (some 31), (some (28, false)), [23, 21], none⟩,
  ⟨.mov (.tmp 31), (some 32), (some (28, false)), [24, 21, 21], none⟩,
  ⟨.addOff 2 (.tmp 2), (some 33), (some (32, true)), [25], none⟩,
  ⟨.load 1 false (.tmp 33), (some 34), (some (32, true)), [26, 25], none⟩,
  ⟨.bin .neq (.tmp 34) (.con (.v (.int .i64 1099511627776))), (some 35), (some (32, true)), [27, 25], none⟩,
  ⟨.pick (.tmp 32) (.tmp 35) (.con (.v (.bool false))), (some 36), (some (28, false)), [25, 28, 21], none⟩,
  ⟨.pick (.tmp 28) (.con (.v (.bool true))) (.tmp 36), (some 37), none, [21, 29], none⟩]
def d58r2 : List RO := [
  ⟨.mov (.con (.v (.bool false))), (some 4), none, [], none⟩]
def d58r3 : List RO := [
  ⟨.mov (.con (.v (.int .i64 0))), (some 5), none, [], none⟩]
def d58r4 : List RO := [
  ⟨.mov (.tmp 5), (some 38), none, [], none⟩,
  ⟨.mov (.tmp 1), (some 39), none, [], none⟩,
  ⟨.bin .lss (.tmp 38) (.tmp 39), (some 40), none, [0, 1], none⟩]
def d58r5 : List RO := [
  ⟨.addOff 1 (.tmp 2), (some 43), none, [], none⟩,
  ⟨.load 1 false (.tmp 43), (some 44), none, [0], none⟩,
  ⟨.mov (.tmp 5), (some 45), none, [], none⟩,
  ⟨.idxAddr 1 (.tmp 44) (.tmp 45), (some 46), none, [1, 2], none⟩,
  ⟨.load 1 false (.tmp 46), (some 47), none, [3], none⟩,
  ⟨.mov (.tmp 47), (some 6), none, [4, 0, 1, 2, 3, 4], none⟩]
def d58r6 : List RO := [
  ⟨.mov (.tmp 5), (some 48), none, [], none⟩,
  ⟨.addOff 0 (.tmp 2), (some 49), none, [], none⟩,
  ⟨.load 1 false (.tmp 49), (some 50), none, [1], none⟩,
  ⟨.bin .eql (.tmp 48) (.tmp 50), (some 51), none, [0, 2], none⟩,
  ⟨.mov (.tmp 51), (some 52), none, [3], none⟩,
  ⟨.mov (.tmp 6), (some 53), (some (52, true)), [4], none⟩,
  ⟨.bin .neq (.tmp 53) (.con (.v (.int .i64 0))), (some 54), (some (52, true)), [5, 4], none⟩,
  ⟨.pick (.tmp 52) (.tmp 54) (.con (.v (.bool false))), (some 55), none, [4, 6], none⟩,
  ⟨.mov (.tmp 55), (some 56), none, [7, 4], none⟩,
  ⟨.mov (.tmp 5), (some 57), (some (56, false)), [8], none⟩,
  ⟨.addOff 0 (.tmp 2), (some 58), (some (56, false)), [8], none⟩,
  ⟨.load 1 false (.tmp 58), (some 59), (some (56, false)), [10, 8], none⟩,
  ⟨.bin .neq (.tmp 57) (.tmp 59), (some 60), (some (56, false)), [9, 11, 8], none⟩,
  ⟨.mov (.tmp 60), (some 61), (some (56, false)), [12, 8, 8], none⟩,
  ⟨.mov (.tmp 6), (some 62), (some (61, true)), [13], none⟩,
  ⟨.bin .neq (.tmp 62) (.con (.v (.int .i64 (-1)))), (some 63), (some (61, true)), [14, 13], none⟩,
  ⟨.pick (.tmp 61) (.tmp 63) (.con (.v (.bool false))), (some 64), (some (56, false)), [13, 15, 8], none⟩,
  ⟨.mov (.tmp 64), (some 65), (some (56, false)), [16, 13, 8], none⟩,
  ⟨.mov (.tmp 6), (some 66), (some (65, true)), [17], none⟩,
  ⟨.bin .lss (.tmp 66) (.con (.v (.int .i64 1))), (some 67), (some (65, true)), [18, 17], none⟩,
  ⟨.mov (.tmp 67), (some 68), (some (65, true)), [19, 17, 17], none⟩,
  ⟨.mov (.tmp 6), (some 69), (some (68, false)), [20], none⟩,
  ⟨.bin .gtr (.tmp 69) (.con (.v (.int .i64 60000))), (some 70), (some (68, false)), [21, 20], none⟩,
  ⟨.pick (.tmp 68) (.con (.v (.bool true))) (.tmp 70), (some 71), (some (65, true)), [20, 22, 17], none⟩,
  ⟨.pick (.tmp 65) (.tmp 71) (.con (.v (.bool false))), (some 72), (some (56, false)), [17, 23, 8], none⟩,
  ⟨.pick (.tmp 56) (.con (.v (.bool true))) (.tmp 72), (some 73), none, [8, 24], none⟩]
def d58r7 : List RO := [
  ⟨.mov (.con (.v (.bool false))), (some 4), none, [], none⟩]
def d58r8 : List RO := [
  ⟨.mov (.tmp 5), (some 41), none, [], none⟩,
  ⟨.bin .add (.tmp 41) (.con (.v (.int .i64 1))), (some 42), none, [0], none⟩,
  ⟨.mov (.tmp 42), (some 5), none, [1, 0, 1], none⟩]
def d58r9 : List RO := [
  ⟨.mov (.con (.v (.bool true))), (some 4), none, [], none⟩]
def d58 : DC := (.seq (.region false d58r0)
  (.seq (.seq (.region false d58r1)
  (.cond (.tmp 37) (.seq (.region false d58r2)
  .ret)
  .skip))
  (.seq (.seq (.region false d58r3)
  (.block 0 (.loop (.seq (.seq (.region false d58r4)
  (.cond (.tmp 40) .skip
  (.exit 0)))
  (.seq (.block 1 (.seq (.region false d58r5)
  (.seq (.region false d58r6)
  (.cond (.tmp 73) (.seq (.region false d58r7)
  .ret)
  .skip))))
  (.region false d58r8))))))
  (.seq (.region false d58r9)
  .ret))))
def d58res : List DRes := [.slot 4]
theorem c58 [Laid] : CodeOf Tryz.prog 65 74 d58 d58res := ⟨Tryz.f65, by kernel_rfl, by kernel_rfl, by kernel_rfl, by kernel_rfl, by kernel_rfl⟩
-- emendate/emendateref37.Before
def d39r0 : List RO := [
  ⟨.box (.tmp 0), (some 2), none, [], none⟩,
  ⟨.box (.tmp 1), (some 3), none, [], none⟩,
  ⟨.mov (.con (.v (.bool false))), (some 4), none, [], none⟩]
def d39r1 : List RO := [
  ⟨.addOff 0 (.tmp 2), (some 5), none, [], none⟩,
  ⟨.load 1 false (.tmp 5), (some 6), none, [0], none⟩,
  ⟨.addOff 0 (.tmp 3), (some 7), none, [], none⟩,
  ⟨.load 1 false (.tmp 7), (some 8), none, [2], none⟩,
  ⟨.bin .neq (.tmp 6) (.tmp 8), (some 9), none, [1, 3], none⟩]
def d39r2 : List RO := [
  ⟨.addOff 0 (.tmp 2), (some 10), none, [], none⟩,
  ⟨.load 1 false (.tmp 10), (some 11), none, [0], none⟩,
  ⟨.addOff 0 (.tmp 3), (some 12), none, [], none⟩,
  ⟨.load 1 false (.tmp 12), (some 13), none, [2], none⟩,
  ⟨.bin .lss (.tmp 11) (.tmp 13), (some 14), none, [1, 3], none⟩,
  ⟨.mov (.tmp 14), (some 4), none, [4, 0, 1, 2, 3, 4], none⟩]
def d39r3 : List RO := [
  ⟨.addOff 1 (.tmp 2), (some 15), none, [], none⟩,
  ⟨.load 1 false (.tmp 15), (some 16), none, [0], none⟩,
  ⟨.addOff 1 (.tmp 3), (some 17), none, [], none⟩,
  ⟨.load 1 false (.tmp 17), (some 18), none, [2], none⟩,
  ⟨.bin .neq (.tmp 16) (.tmp 18), (some 19), none, [1, 3], none⟩]
def d39r4 : List RO := [
  ⟨.addOff 1 (.tmp 2), (some 20), none, [], none⟩,
  ⟨.load 1 false (.tmp 20), (some 21), none, [0], none⟩,
  ⟨.addOff 1 (.tmp 3), (some 22), none, [], none⟩,
  ⟨.load 1 false (.tmp 22), (some 23), none, [2], none⟩,
  ⟨.bin .lss (.tmp 21) (.tmp 23), (some 24), none, [1, 3], none⟩,
  ⟨.mov (.tmp 24), (some 4), none, [4, 0, 1, 2, 3, 4], none⟩]
def d39r5 : List RO := [
  ⟨.addOff 2 (.tmp 2), (some 25), none, [], none⟩,
  ⟨.load 1 false (.tmp 25), (some 26), none, [0], none⟩,
  ⟨.addOff 2 (.tmp 3), (some 27), none, [], none⟩,
  ⟨.load 1 false (.tmp 27), (some 28), none, [2], none⟩,
  ⟨.bin .lss (.tmp 26) (.tmp 28), (some 29), none, [1, 3], none⟩,
  ⟨.mov (.tmp 29), (some 4), none, [4, 0, 1, 2, 3, 4], none⟩]
def d39 : DC := (.seq (.region false d39r0)
  (.seq (.seq (.region false d39r1)
  (.cond (.tmp 9) (.seq (.region false d39r2)
  .ret)
  .skip))
  (.seq (.seq (.region false d39r3)
  (.cond (.tmp 19) (.seq (.region false d39r4)
  .ret)
  .skip))
  (.seq (.region false d39r5)
  .ret))))
def d39res : List DRes := [.slot 4]
theorem c39 [Laid] : CodeOf Tryz.prog 47 30 d39 d39res := ⟨Tryz.f47, by kernel_rfl, by kernel_rfl, by kernel_rfl, by kernel_rfl, by kernel_rfl⟩
-- emendate/emendateref37.add
def d36r0 : List RO := [
  ⟨.mov (.con (.v (.int .i64 0))), (some 4), none, [], none⟩]
def d36r1 : List RO := [
  ⟨.mov (.tmp 0), (some 5), none, [], none⟩,
  ⟨.bin .geq (.tmp 5) (.con (.v (.int .i64 1099511627776))), (some 6), none, [0], none⟩,
  ⟨.mov (.tmp 6), (some 7), none, [1], none⟩,
  ⟨.mov (.tmp 1), (some 8), (some (7, false)), [2], none⟩,
  ⟨.bin .geq (.tmp 8) (.con (.v (.int .i64 1099511627776))), (some 9), (some (7, false)), [3, 2], none⟩,
  ⟨.pick (.tmp 7) (.con (.v (.bool true))) (.tmp 9), (some 10), none, [2, 4], none⟩,
  ⟨.mov (.tmp 10), (some 11), none, [5, 2], none⟩,
  ⟨.mov (.tmp 0), (some 12), (some (11, false)), [6], none⟩,
  ⟨.mov (.tmp 1), (some 13), (some (11, false)), [6], none⟩,
  ⟨.bin .add (.tmp 12) (.tmp 13), (some 14), (some (11, false)), [7, 8, 6], none⟩,
  ⟨.bin .geq (.tmp 14) (.con (.v (.int .i64 1099511627776))), (some 15), (some (11, false)), [9, 6], none⟩,
  ⟨.pick (.tmp 11) (.con (.v (.bool true))) (.tmp 15), (some 16), none, [6, 10], none⟩]
def d36r2 : List RO := [
  ⟨.mov (.con (.v (.int .i64 1099511627776))), (some 4), none, [], none⟩]
def d36r3 : List RO := [
  ⟨.mov (.tmp 0), (some 17), none, [], none⟩,
  ⟨.mov (.tmp 1), (some 18), none, [], none⟩,
  ⟨.bin .add (.tmp 17) (.tmp 18), (some 19), none, [0, 1], none⟩,
  ⟨.mov (.tmp 19), (some 4), none, [2, 0, 1, 2], none⟩]
def d36 : DC := (.seq (.region false d36r0)
  (.seq (.seq (.region false d36r1)
  (.cond (.tmp 16) (.seq (.region false d36r2)
  .ret)
  .skip))
  (.seq (.region false d36r3)
  .ret)))
def d36res : List DRes := [.slot 4]
theorem c36 [Laid] : CodeOf Tryz.prog 28 20 d36 d36res := ⟨Tryz.f28, by kernel_rfl, by kernel_rfl, by kernel_rfl, by kernel_rfl, by kernel_rfl⟩

end Go.Proofs
namespace Go.Proofs
open Go.DM
set_option linter.unusedSimpArgs false
set_option linter.unusedVariables false

/-- Is it the arc of a lattice with these numbers of states and terminals? -/
def arcOk (s terms : Int) (a : Arc) : Prop := ¬ (a.f < 0 ∨ a.f > a.t ∨ a.t ≥ s ∨ a.term < 0 ∨ a.term ≥ terms ∨ a.cost < 0 ∨ a.cost ≥ 1099511627776 ∨ (a.f = a.t ∧ a.cost = 0))
instance (s terms : Int) (a : Arc) : Decidable (arcOk s terms a) := by unfold arcOk; infer_instance
def before (a b : Arc) : Prop := a.f < b.f ∨ (a.f = b.f ∧ (a.t < b.t ∨ (a.t = b.t ∧ a.term < b.term)))
instance (a b : Arc) : Decidable (before a b) := by unfold before; infer_instance
def finOk (f : List Int) (i : Nat) : Prop := 0 ≤ f.getD i default ∧ f.getD i default ≤ 1099511627776
def arcsOk (l : Lattice) (terms : Int) (i : Nat) : Prop := arcOk l.states terms (l.arcs.getD i default) ∧ (i = 0 ∨ before (l.arcs.getD (i - 1) default) (l.arcs.getD i default))
def validP (l : Lattice) (terms : Int) : Prop := (1 ≤ l.states ∧ (l.final.length : Int) = l.states) ∧ (∀ i, i < l.final.length → finOk l.final i) ∧ ∀ i, i < l.arcs.length → arcsOk l terms i
instance (f : List Int) (i : Nat) : Decidable (finOk f i) := by unfold finOk; infer_instance
instance (l : Lattice) (terms : Int) (i : Nat) : Decidable (arcsOk l terms i) := by unfold arcsOk; infer_instance
instance (l : Lattice) (terms : Int) : Decidable (validP l terms) := by unfold validP; infer_instance

end Go.Proofs
/- Valid, the specification. Conditions: none. -/
namespace Go.Proofs
open Go.DM
set_option linter.unusedSimpArgs false
set_option linter.unusedVariables false

theorem t39 (a b : Arc) : CallsOk Tryz.prog 47 [.agg a.enc, .agg b.enc] (.bool (decide (before a b))) := by
  have hΓ := okE
  obtain ⟨v, hv⟩ : ∃ v, decide (before a b) = v := ⟨_, rfl⟩
  rw [hv]
  refine c39.ok (by simp) (initSt_sat ?_)
  simp [Arc.enc]
  refine SatD.regSeq hΓ follows [2, 3] ?_
  simp [d39r0]
  refine SatD.seq ?_
  refine SatD.regSeq hΓ follows [2, 3, 9] ?_
  simp [d39r1]
  refine SatD.cond rfl (fun h => ?_) (fun h => ?_)
  · simp at h
    refine SatD.regSeq hΓ follows [4] ?_
    simp [d39r2]
    refine SatD.ret ?_
    simp [d39res, ← hv, before, h]
  · simp at h
    refine SatD.skip ?_
    simp
    refine SatD.seq ?_
    refine SatD.regSeq hΓ follows [2, 3, 19] ?_
    simp [d39r3]
    refine SatD.cond rfl (fun h2 => ?_) (fun h2 => ?_)
    · simp at h2
      refine SatD.regSeq hΓ follows [4] ?_
      simp [d39r4]
      refine SatD.ret ?_
      simp [d39res, ← hv, before, h, h2]
    · simp at h2
      refine SatD.skip ?_
      simp
      refine SatD.regSeq hΓ follows [4] ?_
      simp [d39r5]
      refine SatD.ret ?_
      simp [d39res, ← hv, before, h, h2]
abbrev spec39 : DM.Spec := specP (fun ts => ∃ a b : Arc, ts = [.agg a.enc, .agg b.enc]) (fun | [.agg x, .agg y] => .bool (decide (before (decArc x) (decArc y))) | _ => .bool false) true
theorem ok39 : EnvOk Tryz.prog (envOf [(47, spec39)]) := by
  refine EnvOk.cons EnvOk.nil ?_
  rintro ts ⟨a, b, rfl⟩
  exact ⟨by simpa using t39 a b, fun _ => rfl⟩

end Go.Proofs
/- Lengths in bits; products. Conditions: none. -/
namespace Go.Proofs
open Go.DM
set_option linter.unusedSimpArgs false
set_option linter.unusedVariables false

theorem u64_id {n : Int} (h : 0 ≤ n ∧ n < 18446744073709551616) : IntKind.u64.wrap n = n := by
  unfold IntKind.wrap
  simp [IntKind.bits, IntKind.signed]
  omega
theorem mask32 {n : Nat} (h : n < 4294967296) : n % 2 ^ IntKind.u64.bits &&& 4294967295 % 2 ^ IntKind.u64.bits = n := by
  have e : IntKind.u64.bits = 64 := rfl
  rw [e, Nat.mod_eq_of_lt (show n < 2 ^ 64 by omega), show 4294967295 % 2 ^ 64 = 2 ^ 32 - 1 by decide, Nat.and_two_pow_sub_one_eq_mod, Nat.mod_eq_of_lt (by omega)]

set_option maxRecDepth 20000 in
theorem t60 (x y : Nat) (hx : x < 4294967296) (hy : y < 4294967296) : CallsOk Tryz.prog 95 [.int .u64 x, .int .u64 y] (.tup [.int .u64 0, .int .u64 ((x * y : Nat) : Int)]) := by
  have hΓ := okE
  refine c60.ok (by simp) (initSt_sat ?_)
  simp
  refine SatD.regSeq hΓ follows [0, 1] ?_
  simp [d60r0]
  obtain ⟨p, hp⟩ : ∃ p, x * y = p := ⟨_, rfl⟩
  have hpb : p < 18446744073709551616 := by
    rw [← hp]
    calc x * y ≤ 4294967295 * 4294967295 := Nat.mul_le_mul (by omega) (by omega)
      _ < _ := by decide
  have hpi : (x : Int) * y = p := by rw [← hp]; simp
  have e1 := u64_id (n := x) (by omega)
  have e2 := u64_id (n := y) (by omega)
  have e3 := u64_id (n := p) (by omega)
  have b : IntKind.u64.bits = 64 := rfl
  have e0 : IntKind.u64.wrap 0 = 0 := rfl
  have d1 : (x : Int) / 4294967296 = 0 := by omega
  have d2 : (y : Int) / 4294967296 = 0 := by omega
  have d3 : (p : Int) / 4294967296 < 4294967296 := by omega
  obtain ⟨q, hq⟩ : ∃ q : Nat, (p : Int) / 4294967296 = q := ⟨p / 4294967296, by omega⟩
  have hqb : q < 4294967296 := by omega
  have e4 := u64_id (n := q) (by omega)
  have d4 : (q : Int) / 4294967296 = 0 := by omega
  rw [hpi]
  refine SatD.regSeq hΓ follows [0, 1, 6] ?_
  simp [d60r1, mask32 hx, e1]
  refine SatD.regSeq hΓ follows [0, 1, 6, 7] ?_
  simp [d60r2, b, d1]
  refine SatD.regSeq hΓ follows [0, 1, 6, 7, 8] ?_
  simp [d60r3, mask32 hy, e2]
  refine SatD.regSeq hΓ follows [0, 1, 6, 7, 8, 9] ?_
  simp [d60r4, b, d2]
  refine SatD.regSeq hΓ follows [0, 1, 6, 7, 8, 9, 10] ?_
  simp [d60r5, hpi, e3]
  refine SatD.regSeq hΓ follows [0, 1, 6, 7, 8, 9, 10, 11] ?_
  simp [d60r6, e0, b, hq, e4]
  refine SatD.regSeq hΓ follows [0, 1, 6, 7, 8, 9, 10, 11, 12] ?_
  simp [d60r7, e0, mask32 hqb, e4]
  refine SatD.regSeq hΓ follows [0, 1, 6, 7, 8, 9, 10, 11, 12, 13] ?_
  simp [d60r8, b, d4, e0]
  refine SatD.regSeq hΓ follows [0, 1, 6, 7, 8, 9, 10, 11, 12, 13] ?_
  simp [d60r9, e0, e4]
  refine SatD.regSeq hΓ follows [0, 1, 4] ?_
  simp [d60r10, e0, b, d4]
  refine SatD.regSeq hΓ follows [4, 5] ?_
  simp [d60r11, hpi, e3]
  refine SatD.ret ?_
  simp [d60res]

abbrev spec60 : DM.Spec := specP (fun ts => ∃ x y : Nat, ts = [.int .u64 x, .int .u64 y] ∧ x < 4294967296 ∧ y < 4294967296) (fun | [.int _ x, .int _ y] => .tup [.int .u64 0, .int .u64 (x * y)] | _ => .bool false) false
theorem ok60 : EnvOk Tryz.prog (envOf [(95, spec60)]) := by
  refine EnvOk.cons EnvOk.nil ?_
  rintro ts ⟨x, y, rfl, h1, h2⟩
  exact ⟨by simpa using t60 x y h1 h2, fun h => by cases h⟩
theorem t46 (x y : Nat) (hx : x < 4294967296) (hy : y < 4294967296) : CallsOk Tryz.prog 71 [.int .u64 x, .int .u64 y] (.tup [.int .u64 0, .int .u64 ((x * y : Nat) : Int)]) := by
  have hΓ := ok60
  refine c46.ok (by simp) (initSt_sat ?_)
  simp
  refine SatD.regSeq hΓ follows [0, 1] ?_
  simp [d46r0]
  refine SatD.seq ?_
  refine SatD.cond rfl (fun h => by cases h) (fun h => ?_)
  refine SatD.skip ?_
  simp
  refine SatD.regSeq hΓ follows [8, 9] ?_
  simp [d46r3]
  refine ⟨⟨x, y, ⟨rfl, rfl⟩, hx, hy⟩, ?_⟩
  refine SatD.regSeq hΓ follows [4, 5] ?_
  simp [d46r4]
  refine SatD.ret ?_
  simp [d46res]

/-! lengths in bits -/
def bytes70 : List UInt8 := match d70r10 with | [_, _, _, ⟨.indexS (.con (.v (.str s))) _, _, _, _, _⟩, _, _, _] => s.data.toList | _ => []
def y70 (x : Nat) : Nat := if 65536 ≤ x then x / 65536 else x
def z70 (y : Nat) : Nat := if 256 ≤ y then y / 256 else y
def c70a (x : Nat) : Int := if 65536 ≤ x then 16 else 0
def c70b (y : Nat) (c : Int) : Int := if 256 ≤ y then c + 8 else c
/-- The length in bits, as the program finds it. -/
def len70 (x : Nat) : Int := IntKind.i64.wrap (c70b (y70 x) (c70a x) + IntKind.i64.wrap ((bytes70[z70 (y70 x)]?.getD 0).toNat : Int))
set_option maxRecDepth 20000 in
theorem t70 (x : Nat) (hx : x < 4294967296) : CallsOk Tryz.prog 105 [.int .u64 x] (ti (len70 x)) := by
  have hΓ := okE
  have e1 := u64_id (n := x) (by omega)
  have b : IntKind.u64.bits = 64 := rfl
  · refine c70.ok (by simp) (initSt_sat ?_)
    simp
    refine SatD.regSeq hΓ follows [0, 2] ?_
    simp [d70r0]
    refine SatD.seq ?_
    refine SatD.regSeq hΓ follows [0, 2, 4] ?_
    simp [d70r1]
    refine SatD.cond rfl (fun h => by simp at h; omega) (fun h => ?_)
    refine SatD.skip ?_
    simp
    refine SatD.seq ?_
    refine SatD.to ⟨DM.look [(0, .v (.int .u64 (if 65536 ≤ x then x / 65536 else x : Nat))), (2, .v (.int .i64 (if 65536 ≤ x then 16 else 0)))], obs [], 2000, 1000, []⟩ ?_ ?_
    · refine SatD.regSeq hΓ follows [0, 2, 8] ?_
      simp [d70r4]
      refine SatD.cond rfl (fun h2 => ?_) (fun h2 => ?_)
      · simp at h2
        have h2' : 65536 ≤ x := by omega
        have e2 := u64_id (n := (x : Int) / 65536) (by omega)
        refine SatD.regSeq hΓ follows [0, 2] ?_
        simp [d70r5, b]
        refine SatD.reg hΓ follows [0, 2] ?_
        simp [d70r6, h2']
        refine Le.keep (o := []) ?_ ?_ ?_ ?_
        · simp
        · simp
        · simp
        · simp
      · simp at h2
        have h2' : ¬ 65536 ≤ x := by omega
        refine SatD.skip ⟨rfl, ?_⟩
        simp only [h2', if_false]
        refine Le.keep (o := []) ?_ ?_ ?_ ?_
        · simp
        · simp
        · simp
        · simp
    obtain ⟨y, hy⟩ : ∃ y, (if 65536 ≤ x then x / 65536 else x) = y := ⟨_, rfl⟩
    obtain ⟨c, hc⟩ : ∃ c : Int, (if 65536 ≤ x then (16 : Int) else 0) = c := ⟨_, rfl⟩
    have hyb : y < 65536 := by rw [← hy]; split <;> omega
    have hcb : 0 ≤ c ∧ c ≤ 16 := by rw [← hc]; split <;> omega
    rw [hy, hc]
    refine SatD.seq ?_
    refine SatD.to ⟨DM.look [(0, .v (.int .u64 (if 256 ≤ y then y / 256 else y : Nat))), (2, .v (.int .i64 (if 256 ≤ y then c + 8 else c)))], obs [], 2000, 1000, []⟩ ?_ ?_
    · refine SatD.regSeq hΓ follows [0, 2, 14] ?_
      simp [d70r7]
      refine SatD.cond rfl (fun h2 => ?_) (fun h2 => ?_)
      · simp at h2
        have h2' : 256 ≤ y := by omega
        refine SatD.regSeq hΓ follows [0, 2] ?_
        simp [d70r8, b]
        refine SatD.reg hΓ follows [0, 2] ?_
        simp [d70r9, h2']
        rw [wrap_id (by omega)]
        refine Le.keep (o := []) ?_ ?_ ?_ ?_
        · simp
        · simp
        · simp
        · simp
      · simp at h2
        have h2' : ¬ 256 ≤ y := by omega
        refine SatD.skip ⟨rfl, ?_⟩
        simp only [h2', if_false]
        refine Le.keep (o := []) ?_ ?_ ?_ ?_
        · simp
        · simp
        · simp
        · simp
    obtain ⟨z, hz⟩ : ∃ z, (if 256 ≤ y then y / 256 else y) = z := ⟨_, rfl⟩
    obtain ⟨c2, hc2⟩ : ∃ c2 : Int, (if 256 ≤ y then c + 8 else c) = c2 := ⟨_, rfl⟩
    have hzb : z < 256 := by rw [← hz]; split <;> omega
    have hc2b : 0 ≤ c2 ∧ c2 ≤ 24 := by rw [← hc2]; split <;> omega
    rw [hz, hc2]
    refine SatD.regSeq hΓ follows [2] ?_
    have w8 : IntKind.u8.wrap (z : Int) = z := by unfold IntKind.wrap; simp [IntKind.bits, IntKind.signed]; omega
    simp [d70r10, w8]
    refine ⟨hzb, ?_⟩
    refine SatD.ret ?_
    simp only [d70res]
    simp
    unfold len70 y70 z70 c70a c70b
    rw [hy, hc, hz, hc2]
    rfl

end Go.Proofs
/- Repeat. Conditions: none. -/
namespace Go.Proofs
open Go.DM
set_option linter.unusedSimpArgs false
set_option linter.unusedVariables false
end Go.Proofs
/- Distance. Conditions: none. -/
namespace Go.Proofs
open Go.DM
set_option linter.unusedSimpArgs false
set_option linter.unusedVariables false

def relax (at' : List Int) (t : Int) (nx : List Int) (a : Arc) : List Int :=
  if a.term = t then nx.set a.t.toNat (min (nx.getD a.t.toNat default) (at'.getD a.f.toNat default + a.cost)) else nx
def nxN (arcs : List Arc) (S : Nat) (at' : List Int) (t : Int) (n : Nat) : List Int := (arcs.take n).foldl (relax at' t) (List.replicate S 1099511627776)
def at0 (S : Nat) : List Int := (List.replicate S 1099511627776).set 0 0
def atN (arcs : List Arc) (S : Nat) (y : List Int) (j : Nat) : List Int := (y.take j).foldl (fun a t => nxN arcs S a t arcs.length) (at0 S)
def bestN (at' fin : List Int) (n : Nat) : Int := (List.range n).foldl (fun b s => min b (at'.getD s default + fin.getD s default)) 1099511627776
def distL (l : Lattice) (y : List Int) : Int := bestN (atN l.arcs l.final.length y y.length) l.final l.final.length

def okA (S : Nat) (at' : List Int) : Prop := at'.length = S ∧ ∀ k, k < S → 0 ≤ at'.getD k default ∧ at'.getD k default ≤ 1099511627776
theorem set_ints (l : List Int) (i : Nat) (v : Int) : (intsT l).set i [ti v] = intsT (l.set i v) := by simp [intsT, List.map_set]

end Go.Proofs
/- Distance, the specification. Conditions: none. -/
namespace Go.Proofs
open Go.DM
set_option linter.unusedSimpArgs false
set_option linter.unusedVariables false

def satA (a b : Int) : Int := if 1099511627776 ≤ a ∨ 1099511627776 ≤ b ∨ 1099511627776 ≤ a + b then 1099511627776 else a + b
theorem t36 (a b : Int) (ha : -1000000000000000000 ≤ a) (hb : -1000000000000000000 ≤ b) : CallsOk Tryz.prog 28 [ti a, ti b] (ti (satA a b)) := by
  have hΓ := okE
  refine c36.ok (by simp) (initSt_sat ?_)
  simp
  refine SatD.regSeq hΓ follows [0, 1] ?_
  simp [d36r0]
  refine SatD.seq ?_
  refine SatD.regToS hΓ follows [(0, .v (ti a)), (1, .v (ti b)), (16, .v (.bool (decide (1099511627776 ≤ a ∨ 1099511627776 ≤ b ∨ 1099511627776 ≤ a + b))))] ?_ ?_
  · by_cases q1 : 1099511627776 ≤ a
    · simp [d36r1, q1]
    · by_cases q2 : 1099511627776 ≤ b
      · simp [d36r1, q1, q2]
      · have w : IntKind.i64.wrap (a + b) = a + b := wrap_id (by omega)
        by_cases q3 : 1099511627776 ≤ a + b
        · simp [d36r1, q1, q2, w, q3]
        · simp [d36r1, q1, q2, w, q3]
  refine SatD.cond rfl (fun h => ?_) (fun h => ?_)
  · simp only [decide_eq_true_eq] at h
    refine SatD.regSeq hΓ follows [4] ?_
    simp [d36r2]
    refine SatD.ret ?_
    simp [d36res, satA, h]
  · simp only [decide_eq_false_iff_not] at h
    refine SatD.skip ?_
    simp
    refine SatD.regSeq hΓ follows [4] ?_
    simp [d36r3]
    refine SatD.ret ?_
    rw [wrap_id (by omega)]
    simp only [satA, h, if_false]
    simp [d36res]
abbrev spec36 : DM.Spec := specP (fun ts => ∃ a b : Int, ts = [ti a, ti b] ∧ -1000000000000000000 ≤ a ∧ -1000000000000000000 ≤ b) (fun | [.int _ a, .int _ b] => ti (satA a b) | _ => .bool false) true
theorem ok36 : EnvOk Tryz.prog (envOf [(28, spec36)]) := by
  refine EnvOk.cons EnvOk.nil ?_
  rintro ts ⟨a, b, rfl, h1, h2⟩
  exact ⟨t36 a b h1 h2, fun _ => rfl⟩

def fill (S lo k : Nat) : List Int := (List.range S).map fun i => if lo ≤ i ∧ i < k then 1099511627776 else 0
end Go.Proofs
/- The builder of lattices: clone, deleted, swap. Conditions: none. -/
namespace Go.Proofs
open Go.DM
set_option linter.unusedSimpArgs false
set_option linter.unusedVariables false
theorem ok0 : EnvOk Tryz.prog (envOf []) := EnvOk.nil

/-! deleted -/
def delCost : List Column → Int → Int
  | [], c => c
  | x :: l, c => delCost l (min (c + x.delete) 1099511627776)
def dels (n : Nat) : List (Int × Int) := List.replicate n (2, 0)
theorem delCost_snoc (l : List Column) (x : Column) (c : Int) : delCost (l ++ [x]) c = min (delCost l c + x.delete) 1099511627776 := by
  induction l generalizing c with
  | nil => rfl
  | cons y l ih => simp [delCost, ih]
theorem delCost_bound {l : List Column} (h : ∀ c ∈ l, 0 ≤ c.delete) : ∀ c, 0 ≤ c ∧ c ≤ 1099511627776 → 0 ≤ delCost l c ∧ delCost l c ≤ 1099511627776 := by
  induction l with
  | nil => intro c hc; exact hc
  | cons y l ih =>
    intro c hc
    have := h y (by simp)
    exact ih (fun z hz => h z (by simp [hz])) _ (by omega)

/-- Is what is deleted worth a number? -/
def delOk (cols : List Column) : Prop := cols.length ≤ 1000000 ∧ ∀ c ∈ cols, 0 ≤ c.delete ∧ c.delete ≤ 1099511627776

/-! swap -/
def swapOk (x : Input) (m : Nat) : Bool :=
  decide (m + 1 < x.columns.length ∧ 0 < x.swap ∧ 0 ≤ (x.columns.getD m default).kind ∧ 0 ≤ (x.columns.getD (m + 1) default).kind)
/-! clone -/
end Go.Proofs
/- Script. Conditions: none. -/
namespace Go.Proofs
open Go.DM
set_option linter.unusedSimpArgs false
set_option linter.unusedVariables false

def stepW (arcs : List Arc) : Option (Int × List (Int × Int)) → Int → Option (Int × List (Int × Int))
  | none, _ => none
  | some (s, out), i => if i < 0 ∨ (arcs.length : Int) ≤ i ∨ (arcs.getD i.toNat default).f ≠ s then none else some ((arcs.getD i.toNat default).t, out ++ (arcs.getD i.toNat default).ops)
def walkL (arcs : List Arc) (path : List Int) : Option (Int × List (Int × Int)) := path.foldl (stepW arcs) (some (0, []))
/-- The operations of a path, and what Script says of it. -/
def scriptL (n : Nat) (l : Lattice) (path : List Int) : List (Int × Int) × Int :=
  match walkL l.arcs path with
  | none => ([], 1)
  | some (s, out) => if 1099511627776 ≤ l.final.getD s.toNat default then ([], 1) else (out ++ dels ((n : Int) - s / 2).toNat, 0)
end Go.Proofs
/- Comparisons of results. Conditions: none. -/
namespace Go.Proofs
open Go.DM
set_option linter.unusedSimpArgs false
set_option linter.unusedVariables false

/-! below -/
def belowP (y : List Int) (terms : Int) : Prop := ∀ i, i < y.length → 0 ≤ y.getD i default ∧ y.getD i default < terms
instance (y : List Int) (terms : Int) : Decidable (belowP y terms) := by unfold belowP; infer_instance
end Go.Proofs
/- Which inputs are fair. Conditions: none. -/
namespace Go.Proofs
open Go.DM
set_option linter.unusedSimpArgs false
set_option linter.unusedVariables false

def readOk3 (c : Column) (t : Nat) : Prop := ¬ (((t : Int) = c.kind ∧ c.read.getD t default ≠ 0) ∨ ((t : Int) ≠ c.kind ∧ c.read.getD t default ≠ -1 ∧ (c.read.getD t default < 1 ∨ c.read.getD t default > 60000)))
def colV (c : Column) (terms : Int) : Prop := (¬ (c.kind < -1 ∨ c.kind ≥ terms ∨ (c.read.length : Int) ≠ terms ∨ c.delete < 1 ∨ (c.delete > 60000 ∧ c.delete ≠ 1099511627776))) ∧ ∀ t, t < terms.toNat → readOk3 c t
instance (c : Column) (t : Nat) : Decidable (readOk3 c t) := by unfold readOk3; infer_instance
instance (c : Column) (terms : Int) : Decidable (colV c terms) := by unfold colV; infer_instance
def colsV (l : List Column) (terms : Int) : Prop := ∀ i, i < l.length → colV (l.getD i default) terms
instance (l : List Column) (terms : Int) : Decidable (colsV l terms) := by unfold colsV; infer_instance
def insV (l : List Int) (t : Nat) : Prop := ¬ (l.getD t default < 1 ∨ l.getD t default > 60000)
instance (l : List Int) (t : Nat) : Decidable (insV l t) := by unfold insV; infer_instance
def inV (x : Input) (terms : Int) : Prop := (¬ (terms < 0 ∨ (x.columns.length : Int) > 60 ∨ (x.insert.length : Int) ≠ terms ∨ x.swap < 0 ∨ x.swap > 60000 ∨ ¬ colsV x.columns terms)) ∧ ∀ t, t < terms.toNat → insV x.insert t
instance (x : Input) (terms : Int) : Decidable (inV x terms) := by unfold inV; infer_instance
def fairP (x : Input) (tokens : Int) : Prop := ((x.columns.length : Int) ≤ tokens ∧ (x.insert.length : Int) ≤ 5) ∧ inV x x.insert.length
instance (x : Input) (tokens : Int) : Decidable (fairP x tokens) := by unfold fairP; infer_instance

set_option maxRecDepth 20000 in
set_option maxHeartbeats 8000000 in
theorem t58 (c : Column) (terms : Int) (h : terms ≤ 1000000000000) : CallsOk Tryz.prog 65 [.agg c.enc, ti terms] (.bool (decide (colV c terms))) := by
  have hΓ := okE
  obtain ⟨v, hv⟩ : ∃ v, decide (colV c terms) = v := ⟨_, rfl⟩
  rw [hv]
  have bad : ¬ colV c terms → v = false := fun h => by rw [← hv]; simp [h]
  have hval : colV c terms ↔ (¬ (c.kind < -1 ∨ c.kind ≥ terms ∨ (c.read.length : Int) ≠ terms ∨ c.delete < 1 ∨ (c.delete > 60000 ∧ c.delete ≠ 1099511627776))) ∧ ∀ t, t < terms.toNat → readOk3 c t := Iff.rfl
  refine c58.ok (by simp) (initSt_sat ?_)
  simp [Column.enc]
  refine SatD.regSeq hΓ follows [1, 2] ?_
  simp [d58r0]
  refine SatD.le (Le.keep (o := []) (l := [(1, .v (ti terms)), (2, .v (.box [ti c.kind, .sl (intsT c.read), ti c.delete]))]) (nxt' := 1200) ?_ ?_ ?_ ?_) ?_
  · simp
  · simp
  · simp
  · simp
  refine SatD.seq ?_
  obtain ⟨b, hb⟩ : ∃ b : Bool, decide (c.kind < -1 ∨ c.kind ≥ terms ∨ (c.read.length : Int) ≠ terms ∨ c.delete < 1 ∨ (c.delete > 60000 ∧ c.delete ≠ 1099511627776)) = b := ⟨_, rfl⟩
  refine SatD.regToS hΓ follows [(1, .v (ti terms)), (2, .v (.box [ti c.kind, .sl (intsT c.read), ti c.delete])), (37, .v (.bool b))] ?_ ?_
  · by_cases q1 : c.kind < -1
    · have hb' : b = true := by rw [← hb]; simp [q1]
      simp [d58r1, q1, hb']
    · by_cases q2 : terms ≤ c.kind
      · have hb' : b = true := by rw [← hb]; simp [q2]
        simp [d58r1, q1, q2, hb']
      · by_cases q3 : (c.read.length : Int) = terms
        · by_cases q4 : c.delete < 1
          · have hb' : b = true := by rw [← hb]; simp [q4]
            simp [d58r1, q1, q2, q3, q4, hb']
          · by_cases q5 : 60000 < c.delete
            · by_cases q6 : c.delete = 1099511627776
              · have hb' : b = false := by rw [← hb]; simp only [decide_eq_false_iff_not]; omega
                simp [d58r1, q1, q2, q3, q4, q5, q6, hb']
              · have hb' : b = true := by rw [← hb]; simp [q5, q6]
                simp [d58r1, q1, q2, q3, q4, q5, q6, hb']
            · have hb' : b = false := by rw [← hb]; simp only [decide_eq_false_iff_not]; omega
              simp [d58r1, q1, q2, q3, q4, q5, hb']
        · have hb' : b = true := by rw [← hb]; simp [q3]
          simp [d58r1, q1, q2, q3, hb']
  refine SatD.cond rfl (fun h => ?_) (fun h => ?_)
  · rw [h] at hb
    simp only [decide_eq_true_eq] at hb
    refine SatD.regSeq hΓ follows [4] ?_
    simp [d58r2]
    refine SatD.ret ?_
    rw [bad fun e => (hval.1 e).1 hb]
    simp [d58res]
  rw [h] at hb
  simp only [decide_eq_false_iff_not] at hb
  obtain ⟨n, hn⟩ : ∃ n, c.read.length = n := ⟨_, rfl⟩
  have hnt : terms = (n : Int) := by omega
  subst hnt
  refine SatD.skip ?_
  simp
  refine SatD.seq ?_
  refine SatD.regSeq hΓ follows [1, 2, 5] ?_
  simp [d58r3]
  refine SatD.block ?_
  refine SatD.loop (fun y : Nat => ⟨DM.look [(1, .v (ti n)), (2, .v (.box [ti c.kind, .sl (intsT c.read), ti c.delete])), (5, .v (ti y))], obs [], 2000, 1000, []⟩)
    (fun y => y ≤ n ∧ ∀ t, t < y → readOk3 c t) (fun y => n - y) 0 (Le.keep (o := []) ?_ ?_ ?_ ?_) (by simp) (fun y hy => ?_)
  · simp
  · simp
  · simp
  · simp
  obtain ⟨hy1, hy2⟩ := hy
  refine SatD.seq ?_
  refine SatD.regSeq hΓ follows [1, 2, 5, 40] ?_
  simp [d58r4]
  refine SatD.cond rfl (fun hcc => ?_) (fun hcc => ?_)
  · simp at hcc
    have hyr : y < c.read.length := by omega
    have r1 := rowAt_ints hyr
    obtain ⟨u, hu⟩ : ∃ u, c.read.getD y default = u := ⟨_, rfl⟩
    rw [hu] at r1
    have hro : readOk3 c y ↔ ¬ (((y : Int) = c.kind ∧ u ≠ 0) ∨ ((y : Int) ≠ c.kind ∧ u ≠ -1 ∧ (u < 1 ∨ u > 60000))) := by unfold readOk3; rw [hu]
    obtain ⟨kd, hkd⟩ : ∃ k, c.kind = k := ⟨_, rfl⟩
    rw [hkd] at hro ⊢
    refine SatD.skip ?_
    simp
    refine SatD.seq ?_
    refine SatD.block ?_
    refine SatD.regSeq hΓ follows [1, 2, 5, 6] ?_
    simp [d58r5, r1, hyr]
    obtain ⟨b2, hb2⟩ : ∃ b : Bool, decide (((y : Int) = kd ∧ u ≠ 0) ∨ ((y : Int) ≠ kd ∧ u ≠ -1 ∧ (u < 1 ∨ u > 60000))) = b := ⟨_, rfl⟩
    refine SatD.regToS hΓ follows [(1, .v (ti n)), (2, .v (.box [ti kd, .sl (intsT c.read), ti c.delete])), (5, .v (ti y)), (73, .v (.bool b2))] ?_ ?_
    · by_cases q1 : (y : Int) = kd
      · by_cases q2 : u = 0
        · have hb' : b2 = false := by rw [← hb2]; simp [q1, q2]
          simp [d58r6, q1, q2, hb']
        · have hb' : b2 = true := by rw [← hb2]; simp [q1, q2]
          simp [d58r6, q1, q2, hb']
      · by_cases q2 : u = -1
        · have hb' : b2 = false := by rw [← hb2]; simp [q1, q2]
          simp [d58r6, q1, q2, hb']
        · by_cases q3 : u < 1
          · have hb' : b2 = true := by rw [← hb2]; simp [q1, q2, q3]
            simp [d58r6, q1, q2, q3, hb']
          · by_cases q4 : 60000 < u
            · have hb' : b2 = true := by rw [← hb2]; simp [q1, q2, q4]
              simp [d58r6, q1, q2, q3, q4, hb']
            · have hb' : b2 = false := by rw [← hb2]; simp only [decide_eq_false_iff_not]; omega
              simp [d58r6, q1, q2, q3, q4, hb']
    refine SatD.cond rfl (fun h => ?_) (fun h => ?_)
    · rw [h] at hb2
      simp only [decide_eq_true_eq] at hb2
      refine SatD.regSeq hΓ follows [4] ?_
      simp [d58r7]
      refine SatD.ret ?_
      rw [bad fun e => hro.1 ((hval.1 e).2 y (by simpa using hcc)) hb2]
      simp [d58res]
    · rw [h] at hb2
      simp only [decide_eq_false_iff_not] at hb2
      refine SatD.skip ?_
      simp
      refine SatD.reg hΓ follows [1, 2, 5] ?_
      simp [d58r8]
      rw [wrap_id (by omega)]
      refine ⟨y + 1, Le.keep (o := []) ?_ ?_ ?_ ?_, ⟨by omega, fun i hi => ?_⟩, by omega⟩
      · simp
      · simp
      · simp
      · simp
      · by_cases e : i = y
        · subst e; exact hro.2 hb2
        · exact hy2 i (by omega)
  simp at hcc
  refine SatD.exit ?_
  simp
  refine SatD.regSeq hΓ follows [4] ?_
  simp [d58r9]
  refine SatD.ret ?_
  have : v = true := by
    rw [← hv, decide_eq_true_eq]
    exact hval.2 ⟨by omega, fun i hi => hy2 i (by simp at hi; omega)⟩
  rw [this]
  simp [d58res]

abbrev spec58 : DM.Spec := specP (fun ts => ∃ (c : Column) (t : Int), ts = [.agg c.enc, ti t] ∧ t ≤ 1000000000000) (fun | [.agg c, .int _ t] => .bool (decide (colV (decCol c) t)) | _ => .bool false) true
theorem ok58 : EnvOk Tryz.prog (envOf [(65, spec58)]) := by
  refine EnvOk.cons EnvOk.nil ?_
  rintro ts ⟨c, t, rfl, h⟩
  exact ⟨by simpa using t58 c t h, fun _ => rfl⟩
theorem t45 (l : List Column) (terms : Int) (h1 : l.length ≤ 1000000000000) (h2 : terms ≤ 1000000000000) : CallsOk Tryz.prog 43 [.sl (colsT l), ti terms] (.bool (decide (colsV l terms))) := by
  have hΓ := ok58
  obtain ⟨v, hv⟩ : ∃ v, decide (colsV l terms) = v := ⟨_, rfl⟩
  rw [hv]
  have bad : ¬ colsV l terms → v = false := fun h => by rw [← hv]; simp [h]
  refine c45.ok (by simp) (initSt_sat ?_)
  simp
  refine SatD.regSeq hΓ follows [0, 1] ?_
  simp [d45r0]
  refine SatD.seq ?_
  refine SatD.regSeq hΓ follows [0, 1, 5] ?_
  simp [d45r1]
  refine SatD.block ?_
  refine SatD.loop (fun j : Nat => ⟨DM.look [(0, .v (.sl (colsT l))), (1, .v (ti terms)), (5, .v (ti j))], obs [], 2000, 1000, []⟩)
    (fun j => j ≤ l.length ∧ ∀ i, i < j → colV (l.getD i default) terms) (fun j => l.length - j) 0 (Le.keep (o := []) ?_ ?_ ?_ ?_) (by simp) (fun j hj => ?_)
  · simp
  · simp
  · simp
  · simp
  obtain ⟨hy1, hy2⟩ := hj
  refine SatD.seq ?_
  refine SatD.regSeq hΓ follows [0, 1, 5, 9] ?_
  simp [d45r2]
  refine SatD.cond rfl (fun hcc => ?_) (fun hcc => ?_)
  · simp at hcc
    have r1 := rowAt_cols hcc
    refine SatD.skip ?_
    simp
    refine SatD.seq ?_
    refine SatD.block ?_
    obtain ⟨u, hu⟩ : ∃ u, l.getD j default = u := ⟨_, rfl⟩
    rw [hu] at r1
    refine SatD.regSeq hΓ follows [0, 1, 5, 18] ?_
    obtain ⟨a, b, c⟩ := u
    simp [d45r3, hcc, r1, Column.enc]
    rw [show decCol [ti a, T.sl (intsT b), ti c] = ⟨a, b, c⟩ from decCol_enc ⟨a, b, c⟩]
    refine ⟨⟨⟨a, b, c⟩, terms, ⟨⟨rfl, rfl, rfl⟩, rfl⟩, h2⟩, ?_⟩
    refine SatD.cond rfl (fun h => ?_) (fun h => ?_)
    · simp at h
      refine SatD.regSeq hΓ follows [4] ?_
      simp [d45r4]
      refine SatD.ret ?_
      rw [bad fun e => h (by have := e j hcc; rw [hu] at this; exact this)]
      simp [d45res]
    · simp at h
      refine SatD.skip ?_
      simp
      refine SatD.reg hΓ follows [0, 1, 5] ?_
      simp [d45r5]
      rw [wrap_id (by omega)]
      refine ⟨j + 1, Le.keep (o := []) ?_ ?_ ?_ ?_, ⟨by omega, fun i hi => ?_⟩, by omega⟩
      · simp
      · simp
      · simp
      · simp
      · by_cases e : i = j
        · subst e; show colV (l.getD i default) terms; rw [hu]; exact h
        · exact hy2 i (by omega)
  simp at hcc
  refine SatD.exit ?_
  simp
  refine SatD.regSeq hΓ follows [4] ?_
  simp [d45r6]
  refine SatD.ret ?_
  have : v = true := by
    rw [← hv, decide_eq_true_eq]
    exact fun i hi => hy2 i (by omega)
  rw [this]
  simp [d45res]

abbrev spec45 : DM.Spec := specP (fun ts => ∃ (l : List Column) (t : Int), ts = [.sl (colsT l), ti t] ∧ l.length ≤ 1000000000000 ∧ t ≤ 1000000000000) (fun | [.sl c, .int _ t] => .bool (decide (colsV (decCols c) t)) | _ => .bool false) true
theorem ok45 : EnvOk Tryz.prog (envOf [(43, spec45)]) := by
  refine EnvOk.cons EnvOk.nil ?_
  rintro ts ⟨c, t, rfl, h1, h2⟩
  exact ⟨by simpa using t45 c t h1 h2, fun _ => rfl⟩
set_option maxRecDepth 20000 in
set_option maxHeartbeats 8000000 in
theorem t28 (x : Input) (terms : Int) (ht : terms ≤ 1000000000000) : CallsOk Tryz.prog 21 [x.enc, ti terms] (.bool (decide (inV x terms))) := by
  have hΓ := ok45
  obtain ⟨v, hv⟩ : ∃ v, decide (inV x terms) = v := ⟨_, rfl⟩
  rw [hv]
  have bad : ¬ inV x terms → v = false := fun h => by rw [← hv]; simp [h]
  have hval : inV x terms ↔ (¬ (terms < 0 ∨ (x.columns.length : Int) > 60 ∨ (x.insert.length : Int) ≠ terms ∨ x.swap < 0 ∨ x.swap > 60000 ∨ ¬ colsV x.columns terms)) ∧ ∀ t, t < terms.toNat → insV x.insert t := Iff.rfl
  refine c28.ok (by simp) (initSt_sat ?_)
  simp [Input.enc]
  refine SatD.regSeq hΓ follows [1, 2] ?_
  simp [d28r0]
  refine SatD.le (Le.keep (o := []) (l := [(1, .v (ti terms)), (2, .v (.box [.sl (colsT x.columns), .sl (intsT x.insert), ti x.swap]))]) (nxt' := 1200) ?_ ?_ ?_ ?_) ?_
  · simp
  · simp
  · simp
  · simp
  refine SatD.seq ?_
  obtain ⟨b, hb⟩ : ∃ b : Bool, decide (terms < 0 ∨ (x.columns.length : Int) > 60 ∨ (x.insert.length : Int) ≠ terms ∨ x.swap < 0 ∨ x.swap > 60000 ∨ ¬ colsV x.columns terms) = b := ⟨_, rfl⟩
  refine SatD.regToS hΓ follows [(1, .v (ti terms)), (2, .v (.box [.sl (colsT x.columns), .sl (intsT x.insert), ti x.swap])), (37, .v (.bool b))] ?_ ?_
  · by_cases q1 : terms < 0
    · have hb' : b = true := by rw [← hb]; simp [q1]
      simp [d28r1, q1, hb']
    · by_cases q2 : 60 < (x.columns.length : Int)
      · have hb' : b = true := by rw [← hb]; simp [q2]
        simp [d28r1, q1, q2, hb']
      · by_cases q3 : (x.insert.length : Int) = terms
        · by_cases q4 : x.swap < 0
          · have hb' : b = true := by rw [← hb]; simp [q4]
            simp [d28r1, q1, q2, q3, q4, hb']
          · by_cases q5 : 60000 < x.swap
            · have hb' : b = true := by rw [← hb]; simp [q5]
              simp [d28r1, q1, q2, q3, q4, q5, hb']
            · by_cases q6 : colsV x.columns terms
              · have hb' : b = false := by rw [← hb]; simp only [decide_eq_false_iff_not]; rintro (h | h | h | h | h | h) <;> first | omega | exact h q6
                simp [d28r1, q1, q2, q3, q4, q5, q6, hb']
                exact ⟨x.columns, terms, ⟨rfl, rfl⟩, by omega, ht⟩
              · have hb' : b = true := by rw [← hb]; simp [q6]
                simp [d28r1, q1, q2, q3, q4, q5, q6, hb']
                exact ⟨x.columns, terms, ⟨rfl, rfl⟩, by omega, ht⟩
        · have hb' : b = true := by rw [← hb]; simp [q3]
          simp [d28r1, q1, q2, q3, hb']
  refine SatD.cond rfl (fun h => ?_) (fun h => ?_)
  · rw [h] at hb
    simp only [decide_eq_true_eq] at hb
    refine SatD.regSeq hΓ follows [4] ?_
    simp [d28r2]
    refine SatD.ret ?_
    rw [bad fun e => (hval.1 e).1 hb]
    simp [d28res]
  rw [h] at hb
  simp only [decide_eq_false_iff_not] at hb
  have hb3 : (x.insert.length : Int) = terms := by
    by_cases e : (x.insert.length : Int) = terms
    · exact e
    · exact absurd (.inr (.inr (.inl e))) hb
  obtain ⟨n, hn⟩ : ∃ n, x.insert.length = n := ⟨_, rfl⟩
  rw [hn] at hb3
  subst hb3
  refine SatD.skip ?_
  simp
  refine SatD.seq ?_
  refine SatD.regSeq hΓ follows [1, 2, 5] ?_
  simp [d28r3]
  refine SatD.block ?_
  refine SatD.loop (fun y : Nat => ⟨DM.look [(1, .v (ti n)), (2, .v (.box [.sl (colsT x.columns), .sl (intsT x.insert), ti x.swap])), (5, .v (ti y))], obs [], 2000, 1000, []⟩)
    (fun y => y ≤ n ∧ ∀ t, t < y → insV x.insert t) (fun y => n - y) 0 (Le.keep (o := []) ?_ ?_ ?_ ?_) (by simp) (fun y hy => ?_)
  · simp
  · simp
  · simp
  · simp
  obtain ⟨hy1, hy2⟩ := hy
  refine SatD.seq ?_
  refine SatD.regSeq hΓ follows [1, 2, 5, 40] ?_
  simp [d28r4]
  refine SatD.cond rfl (fun hcc => ?_) (fun hcc => ?_)
  · simp at hcc
    have hyr : y < x.insert.length := by omega
    have r1 := rowAt_ints hyr
    obtain ⟨u, hu⟩ : ∃ u, x.insert.getD y default = u := ⟨_, rfl⟩
    rw [hu] at r1
    have hro : insV x.insert y ↔ ¬ (u < 1 ∨ u > 60000) := by unfold insV; rw [hu]
    refine SatD.skip ?_
    simp
    refine SatD.seq ?_
    refine SatD.block ?_
    refine SatD.regToS hΓ follows [(1, .v (ti n)), (2, .v (.box [.sl (colsT x.columns), .sl (intsT x.insert), ti x.swap])), (5, .v (ti y)), (56, .v (.bool (decide (u < 1 ∨ 60000 < u))))] ?_ ?_
    · by_cases q1 : u < 1
      · simp [d28r5, r1, hyr, q1]
      · by_cases q2 : 60000 < u <;> simp [d28r5, r1, hyr, q1, q2]
    refine SatD.cond rfl (fun h => ?_) (fun h => ?_)
    · simp only [decide_eq_true_eq] at h
      refine SatD.regSeq hΓ follows [4] ?_
      simp [d28r6]
      refine SatD.ret ?_
      rw [bad fun e => hro.1 ((hval.1 e).2 y (by simpa using hcc)) h]
      simp [d28res]
    · simp only [decide_eq_false_iff_not] at h
      refine SatD.skip ?_
      simp
      refine SatD.reg hΓ follows [1, 2, 5] ?_
      simp [d28r7]
      rw [wrap_id (by omega)]
      refine ⟨y + 1, Le.keep (o := []) ?_ ?_ ?_ ?_, ⟨by omega, fun i hi => ?_⟩, by omega⟩
      · simp
      · simp
      · simp
      · simp
      · by_cases e : i = y
        · subst e; exact hro.2 h
        · exact hy2 i (by omega)
  simp at hcc
  refine SatD.exit ?_
  simp
  refine SatD.regSeq hΓ follows [4] ?_
  simp [d28r8]
  refine SatD.ret ?_
  have : v = true := by
    rw [← hv, decide_eq_true_eq]
    exact hval.2 ⟨hb, fun i hi => hy2 i (by simp at hi; omega)⟩
  rw [this]
  simp [d28res]

end Go.Proofs
/- Which questions the statements ask: may. Conditions: none. -/
namespace Go.Proofs
namespace Inc
open Go.DM
set_option linter.unusedSimpArgs false
set_option linter.unusedVariables false

def mayP (z : Ask) : Prop := (¬ ((z.n.rules.length : Int) > 14 ∨ z.n.nonterms > 8 ∨ z.n.terms > 5 ∨ ¬ validN z.n ∨ (z.x.columns.length : Int) > 4 ∨ (z.new.length : Int) > 3 ∨ ¬ inV z.x z.n.terms ∨ z.fr < 0 ∨ z.od < 0 ∨ z.fr > z.x.columns.length ∨ z.od > z.x.columns.length - z.fr)) ∧ inV (afterA z) z.n.terms ∧ modP z.n z.x.insert
instance (z : Ask) : Decidable (mayP z) := by unfold mayP; infer_instance
abbrev s21 : DM.Spec := specP (fun ts => ∃ a b c t, ts = [.agg [.sl (colsT a), .sl (intsT b), ti c], ti t] ∧ t ≤ 1000000000000) (fun | [x, .int _ t] => .bool (decide (inV (decX x) t)) | _ => .bool false) true
abbrev s22 : DM.Spec := specP (fun ts => ∃ a b c l i, ts = [.agg [ti a, ti b, ti c, .sl (rulesT l)], .sl (intsT i)] ∧ l.length ≤ 9223372036854775807 ∧ i.length ≤ 9223372036854775807) (fun | [n, .sl i] => .bool (decide (modP (decN n) (decInts i))) | _ => .bool false) true
abbrev s14 : DM.Spec := specP (fun ts => ∃ nt nn ns rules cols ins sw fr od new, ts = [.agg [ti nt, ti nn, ti ns, .sl (rulesT rules), .sl (colsT cols), .sl (intsT ins), ti sw, ti fr, ti od, .sl (colsT new)]] ∧ fitA ⟨⟨nt, nn, ns, rules⟩, ⟨cols, ins, sw⟩, fr, od, new⟩)
  (fun | [.agg [_, _, _, _, .sl c, .sl i, .int _ s, .int _ fr, .int _ od, .sl nw]] => .agg [.sl (colsT (replaceX ⟨decCols c, decInts i, s⟩ fr.toNat od.toNat (decCols nw)).columns), .sl (intsT (replaceX ⟨decCols c, decInts i, s⟩ fr.toNat od.toNat (decCols nw)).insert), ti (replaceX ⟨decCols c, decInts i, s⟩ fr.toNat od.toNat (decCols nw)).swap] | _ => .bool false) false
theorem ok14 {l : List (Nat × DM.Spec)} (h : EnvOk Tryz.prog (envOf l)) : EnvOk Tryz.prog (envOf ((14, s14) :: l)) := by
  refine EnvOk.cons h ?_
  rintro ts ⟨nt, nn, ns, rules, cols, ins, sw, fr, od, new, rfl, h⟩
  exact ⟨by simpa [Ask.enc, Input.enc, afterA] using t14 ⟨⟨nt, nn, ns, rules⟩, ⟨cols, ins, sw⟩, fr, od, new⟩ h, fun h => by cases h⟩
theorem okM : EnvOk Tryz.prog (envOf [(14, s14), (20, s20), (21, s21), (22, s22)]) := by
  refine ok14 (EnvOk.cons (EnvOk.cons (EnvOk.cons EnvOk.nil ?_) ?_) ?_)
  · rintro ts ⟨a, b, c, l, i, rfl, h1, h2⟩
    exact ⟨by simpa [Normal.enc] using t22 ⟨a, b, c, l⟩ i h1 h2, fun _ => rfl⟩
  · rintro ts ⟨a, b, c, t, rfl, h⟩
    exact ⟨by simpa [Input.enc] using t28 ⟨a, b, c⟩ t h, fun _ => rfl⟩
  · rintro ts ⟨a, b, c, l, rfl, h⟩
    exact ⟨by simpa [Normal.enc] using t20 ⟨a, b, c, l⟩ h, fun _ => rfl⟩
set_option maxRecDepth 20000 in
set_option maxHeartbeats 8000000 in
theorem t9 (z : Ask) (hl : z.n.rules.length ≤ 9223372036854775807 ∧ z.x.insert.length ≤ 9223372036854775807) : CallsOk Tryz.prog 9 [z.enc] (.bool (decide (mayP z))) := by
  obtain ⟨⟨nt, nn, ns, rules⟩, ⟨cols, ins, sw⟩, fr, od, new⟩ := z
  obtain ⟨hl1, hl2⟩ := hl
  simp only at hl1 hl2
  obtain ⟨v, hv⟩ : ∃ v, decide (mayP ⟨⟨nt, nn, ns, rules⟩, ⟨cols, ins, sw⟩, fr, od, new⟩) = v := ⟨_, rfl⟩
  rw [hv]
  have hval : mayP ⟨⟨nt, nn, ns, rules⟩, ⟨cols, ins, sw⟩, fr, od, new⟩ ↔ (¬ ((rules.length : Int) > 14 ∨ nn > 8 ∨ nt > 5 ∨ ¬ validN ⟨nt, nn, ns, rules⟩ ∨ (cols.length : Int) > 4 ∨ (new.length : Int) > 3 ∨ ¬ inV ⟨cols, ins, sw⟩ nt ∨ fr < 0 ∨ od < 0 ∨ fr > cols.length ∨ od > cols.length - fr)) ∧ inV (afterA ⟨⟨nt, nn, ns, rules⟩, ⟨cols, ins, sw⟩, fr, od, new⟩) nt ∧ modP ⟨nt, nn, ns, rules⟩ ins := Iff.rfl
  have bad : ¬ mayP ⟨⟨nt, nn, ns, rules⟩, ⟨cols, ins, sw⟩, fr, od, new⟩ → v = false := fun h => by rw [← hv]; simp [h]
  have hΓ := okM
  refine c9.ok (by simp) (initSt_sat ?_)
  simp [Ask.enc]
  refine SatD.regSeq hΓ follows [1] ?_
  simp [d9r0]
  refine SatD.le (Le.keep (o := []) (l := [(1, .v (.box [ti nt, ti nn, ti ns, .sl (rulesT rules), .sl (colsT cols), .sl (intsT ins), ti sw, ti fr, ti od, .sl (colsT new)]))]) (nxt' := 1200) ?_ ?_ ?_ ?_) ?_
  · simp
  · simp
  · simp
  · simp
  refine SatD.seq ?_
  obtain ⟨c1, hc1⟩ : ∃ c1 : Bool, decide ((rules.length : Int) > 14 ∨ nn > 8 ∨ nt > 5 ∨ ¬ validN ⟨nt, nn, ns, rules⟩ ∨ (cols.length : Int) > 4 ∨ (new.length : Int) > 3 ∨ ¬ inV ⟨cols, ins, sw⟩ nt ∨ fr < 0 ∨ od < 0 ∨ fr > cols.length ∨ od > cols.length - fr) = c1 := ⟨_, rfl⟩
  refine SatD.regToS hΓ follows [(1, .v (.box [ti nt, ti nn, ti ns, .sl (rulesT rules), .sl (colsT cols), .sl (intsT ins), ti sw, ti fr, ti od, .sl (colsT new)])), (78, .v (.bool c1))] ?_ ?_
  · by_cases q1 : (rules.length : Int) > 14
    · have : c1 = true := by rw [← hc1]; simp [q1]
      simp [d9r1, and_assoc, q1, this]
    · skip
      by_cases q2 : nn > 8
      · have : c1 = true := by rw [← hc1]; simp [q2]
        simp [d9r1, and_assoc, q1, q2, this]
      · skip
        by_cases q3 : nt > 5
        · have : c1 = true := by rw [← hc1]; simp [q3]
          simp [d9r1, and_assoc, q1, q2, q3, this]
        · skip
          have hr1 : rules.length ≤ 9223372036854775807 := by omega
          by_cases q4 : ¬ validN ⟨nt, nn, ns, rules⟩
          · have : c1 = true := by rw [← hc1]; simp [q4]
            simp [d9r1, and_assoc, q1, q2, q3, q4, this, hr1]
          · skip
            have q4 := Classical.not_not.1 q4
            by_cases q5 : (cols.length : Int) > 4
            · have : c1 = true := by rw [← hc1]; simp [q5]
              simp [d9r1, and_assoc, q1, q2, q3, q4, q5, this, hr1]
            · skip
              by_cases q6 : (new.length : Int) > 3
              · have : c1 = true := by rw [← hc1]; simp [q6]
                simp [d9r1, and_assoc, q1, q2, q3, q4, q5, q6, this, hr1]
              · skip
                have hr2 : nt ≤ 1000000000000 := by omega
                by_cases q7 : ¬ inV ⟨cols, ins, sw⟩ nt
                · have : c1 = true := by rw [← hc1]; simp [q7]
                  simp [d9r1, and_assoc, q1, q2, q3, q4, q5, q6, q7, this, hr1, hr2]
                · skip
                  have q7 := Classical.not_not.1 q7
                  by_cases q8 : fr < 0
                  · have : c1 = true := by rw [← hc1]; simp [q8]
                    simp [d9r1, and_assoc, q1, q2, q3, q4, q5, q6, q7, q8, this, hr1, hr2]
                  · skip
                    by_cases q9 : od < 0
                    · have : c1 = true := by rw [← hc1]; simp [q9]
                      simp [d9r1, and_assoc, q1, q2, q3, q4, q5, q6, q7, q8, q9, this, hr1, hr2]
                    · skip
                      by_cases q10 : fr > cols.length
                      · have : c1 = true := by rw [← hc1]; simp [q10]
                        simp [d9r1, and_assoc, q1, q2, q3, q4, q5, q6, q7, q8, q9, q10, this, hr1, hr2]
                      · skip
                        have w3 : IntKind.i64.wrap ((cols.length : Int) - fr) = (cols.length : Int) - fr := wrap_id (by omega)
                        by_cases q11 : od > cols.length - fr
                        · have : c1 = true := by rw [← hc1]; simp [q11]
                          simp [d9r1, and_assoc, q1, q2, q3, q4, q5, q6, q7, q8, q9, q10, q11, this, hr1, hr2, w3]
                        · skip
                          have : c1 = false := by rw [← hc1]; simp [q1, q2, q3, q4, q5, q6, q7, q8, q9, q10, q11]
                          simp [d9r1, and_assoc, q1, q2, q3, q4, q5, q6, q7, q8, q9, q10, q11, this, hr1, hr2, w3]
  refine SatD.cond rfl (fun g => ?_) (fun g => ?_)
  · rw [g] at hc1
    have hc1 := of_decide_eq_true hc1
    refine SatD.regSeq hΓ follows [2] ?_
    simp [d9r2]
    refine SatD.ret ?_
    rw [bad fun h => (hval.1 h).1 hc1]
    simp [d9res]
  · rw [g] at hc1
    have hc1 := of_decide_eq_false hc1
    have hfit : fitA ⟨⟨nt, nn, ns, rules⟩, ⟨cols, ins, sw⟩, fr, od, new⟩ := by
      refine ⟨?_, ?_, ?_, ?_, ?_, ?_⟩ <;> simp only <;> omega
    refine SatD.skip ?_
    simp
    have hr2 : nt ≤ 1000000000000 := by omega
    obtain ⟨A, hA⟩ : ∃ A, replaceX ⟨cols, ins, sw⟩ fr.toNat od.toNat new = A := ⟨_, rfl⟩
    have hv2 : (decide (inV A nt) && decide (modP ⟨nt, nn, ns, rules⟩ ins)) = v := by
      rw [← hv, ← Bool.decide_and, decide_eq_decide, hval, show afterA ⟨⟨nt, nn, ns, rules⟩, ⟨cols, ins, sw⟩, fr, od, new⟩ = A from hA]
      exact ⟨fun h => ⟨hc1, h⟩, fun h => h.2⟩
    obtain ⟨ac, ai, az⟩ := A
    refine SatD.regToS hΓ follows [(2, .v (.bool v))] ?_ ?_
    · by_cases q1 : inV ⟨ac, ai, az⟩ nt
      · simp [d9r3, and_assoc, hfit, hA, hr2, hl1, hl2, q1] at hv2 ⊢
        exact hv2
      · simp [d9r3, and_assoc, hfit, hA, hr2, hl1, hl2, q1] at hv2 ⊢
        exact hv2
    refine SatD.ret ?_
    simp [d9res]
end Inc
end Go.Proofs
/- The reference's Path and Script. Conditions: none. -/
namespace Go.Proofs
open Go.DM
set_option linter.unusedSimpArgs false
set_option linter.unusedVariables false

theorem satA_nn {a b : Int} (ha : 0 ≤ a) (hb : 0 ≤ b) : 0 ≤ satA a b := by unfold satA; split <;> omega

/-! Script -/
end Go.Proofs
/- The builder of lattices: add. Conditions: none. -/
namespace Go.Proofs
open Go.DM
set_option linter.unusedSimpArgs false
set_option linter.unusedVariables false

end Go.Proofs
/- The builder of lattices: reads. Conditions: none. -/
namespace Go.Proofs
open Go.DM
set_option linter.unusedSimpArgs false
set_option linter.unusedVariables false

/-! reads -/
def addAll (al : List Arc) (cs : List Arc) : List Arc := cs.foldl addL al
def readN (read : List Int) (i m cost : Int) (ops : List (Int × Int)) (n : Nat) : List Arc :=
  (List.range n).flatMap fun t => if 0 ≤ read.getD t 0 then [⟨2 * i, 2 * m + 2, t, cost + read.getD t 0, ops ++ [(1, (t : Int))]⟩] else []
/-- The prices fit. -/
def colOk (c : Column) : Prop := c.read.length ≤ 1000000 ∧ ∀ p ∈ c.read, p ≤ 1099511627776

end Go.Proofs
