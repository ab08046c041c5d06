import Derived.Test.YtecgedikabjcdaaProg
import Derived.KernelRfl
import Derived.Test.YtecgedikabjcdaaMe
set_option maxRecDepth 100000

namespace Go.Proofs
open Go.DM

-- emendate/items.of
def d32r0 : List RO := [
  ⟨.box (.tmp 0), (some 2), none, [], none⟩,
  ⟨.box (.tmp 1), (some 3), none, [], none⟩,
  ⟨.alloc [(.v (.int .i64 0)), (.v (.int .i64 0))], (some 4), none, [], none⟩]
def d32r1 : List RO := [
  ⟨.addOff 1 (.tmp 2), (some 5), none, [], none⟩,
  ⟨.load 1 false (.tmp 5), (some 6), none, [0], none⟩,
  ⟨.addOff 0 (.tmp 3), (some 7), none, [], none⟩,
  ⟨.load 1 false (.tmp 7), (some 8), none, [2], none⟩,
  ⟨.build [(.v (.int .i64 0)), (.v (.int .i64 0))] [(0, 1, (.tmp 6)), (1, 1, (.tmp 8))], (some 9), none, [1, 3], none⟩,
  ⟨.store 2 (.tmp 4) (.tmp 9), none, none, [4, 0, 1, 2, 3, 4], none⟩]
def d32 : DC := (.seq (.region false d32r0)
  (.seq (.region false d32r1)
  .ret))
def d32res : List DRes := [.cell 4 2 true]
theorem c32 : CodeOf Try.prog 32 10 d32 d32res := ⟨Try.f32, by kernel_rfl, by kernel_rfl, by kernel_rfl, by kernel_rfl, by kernel_rfl⟩
-- (emendate/items.space).goal
def d33r0 : List RO := [
  ⟨.box (.tmp 0), (some 1), none, [], none⟩,
  ⟨.mov (.con (.v (.int .i64 0))), (some 2), none, [], none⟩]
def d33r1 : List RO := [
  ⟨.addOff 0 (.tmp 1), (some 3), none, [], none⟩,
  ⟨.load 1 false (.tmp 3), (some 4), none, [0], none⟩,
  ⟨.addOff 1 (.tmp 1), (some 5), none, [], none⟩,
  ⟨.load 1 false (.tmp 5), (some 6), none, [2], none⟩,
  ⟨.bin .mul (.tmp 4) (.tmp 6), (some 7), none, [1, 3], none⟩,
  ⟨.addOff 1 (.tmp 1), (some 8), none, [], none⟩,
  ⟨.load 1 false (.tmp 8), (some 9), none, [5], none⟩,
  ⟨.bin .add (.tmp 9) (.con (.v (.int .i64 1))), (some 10), none, [6], none⟩,
  ⟨.bin .mul (.tmp 7) (.tmp 10), (some 11), none, [4, 7], none⟩,
  ⟨.bin .quo (.tmp 11) (.con (.v (.int .i64 2))), (some 12), none, [8], none⟩,
  ⟨.mov (.tmp 12), (some 2), none, [9, 0, 1, 2, 3, 4, 5, 6, 7, 8, 9], none⟩]
def d33 : DC := (.seq (.region false d33r0)
  (.seq (.region false d33r1)
  .ret))
def d33res : List DRes := [.slot 2]
theorem c33 : CodeOf Try.prog 33 13 d33 d33res := ⟨Try.f33, by kernel_rfl, by kernel_rfl, by kernel_rfl, by kernel_rfl, by kernel_rfl⟩
-- (emendate/items.space).index
def d37r0 : List RO := [
  ⟨.box (.tmp 0), (some 4), none, [], none⟩,
  ⟨.mov (.con (.v (.int .i64 0))), (some 8), none, [], none⟩]
def d37r1 : List RO := [
  ⟨.mov (.tmp 2), (some 10), none, [], none⟩,
  ⟨.addOff 1 (.tmp 4), (some 11), none, [], none⟩,
  ⟨.load 1 false (.tmp 11), (some 12), none, [1], none⟩,
  ⟨.bin .mul (.tmp 10) (.tmp 12), (some 13), none, [0, 2], none⟩,
  ⟨.mov (.tmp 2), (some 14), none, [], none⟩,
  ⟨.mov (.tmp 2), (some 15), none, [], none⟩,
  ⟨.bin .sub (.tmp 15) (.con (.v (.int .i64 1))), (some 16), none, [5], none⟩,
  ⟨.bin .mul (.tmp 14) (.tmp 16), (some 17), none, [4, 6], none⟩,
  ⟨.bin .quo (.tmp 17) (.con (.v (.int .i64 2))), (some 18), none, [7], none⟩,
  ⟨.bin .sub (.tmp 13) (.tmp 18), (some 19), none, [3, 8], none⟩,
  ⟨.mov (.tmp 19), (some 9), none, [9, 0, 1, 2, 3, 4, 5, 6, 7, 8, 9], none⟩]
def d37r2 : List RO := [
  ⟨.mov (.tmp 9), (some 20), none, [], none⟩,
  ⟨.mov (.tmp 3), (some 21), none, [], none⟩,
  ⟨.bin .add (.tmp 20) (.tmp 21), (some 22), none, [0, 1], none⟩,
  ⟨.mov (.tmp 2), (some 23), none, [], none⟩,
  ⟨.bin .sub (.tmp 22) (.tmp 23), (some 24), none, [2, 3], none⟩,
  ⟨.addOff 0 (.tmp 4), (some 25), none, [], none⟩,
  ⟨.load 1 false (.tmp 25), (some 26), none, [5], none⟩,
  ⟨.bin .mul (.tmp 24) (.tmp 26), (some 27), none, [4, 6], none⟩,
  ⟨.mov (.tmp 1), (some 28), none, [], none⟩,
  ⟨.bin .add (.tmp 27) (.tmp 28), (some 29), none, [7, 8], none⟩,
  ⟨.mov (.tmp 29), (some 8), none, [9, 0, 1, 2, 3, 4, 5, 6, 7, 8, 9], none⟩]
def d37 : DC := (.seq (.region false d37r0)
  (.seq (.region false d37r1)
  (.seq (.region false d37r2)
  .ret)))
def d37res : List DRes := [.slot 8]
theorem c37 : CodeOf Try.prog 37 30 d37 d37res := ⟨Try.f37, by kernel_rfl, by kernel_rfl, by kernel_rfl, by kernel_rfl, by kernel_rfl⟩
-- emendate/items.Count
def d17r0 : List RO := [
  ⟨.box (.tmp 0), (some 2), none, [], none⟩,
  ⟨.box (.tmp 1), (some 3), none, [], none⟩,
  ⟨.mov (.con (.v (.int .i64 0))), (some 4), none, [], none⟩]
def d17r1 : List RO := [
  ⟨.load 4 true (.tmp 2), (some 5), none, [], none⟩,
  ⟨.load 3 true (.tmp 3), (some 6), none, [], none⟩,
  ⟨.call 32 [(.tmp 5), (.tmp 6)], (some 7), none, [0, 1], none⟩,
  ⟨.call 33 [(.tmp 7)], (some 8), none, [2, 2], none⟩,
  ⟨.bin .add (.tmp 8) (.con (.v (.int .i64 1))), (some 9), none, [3], none⟩,
  ⟨.mov (.tmp 9), (some 4), none, [4, 3, 0, 1, 2, 3, 4], none⟩]
def d17 : DC := (.seq (.region false d17r0)
  (.seq (.region false d17r1)
  .ret))
def d17res : List DRes := [.slot 4]
theorem c17 : CodeOf Try.prog 17 10 d17 d17res := ⟨Try.f17, by kernel_rfl, by kernel_rfl, by kernel_rfl, by kernel_rfl, by kernel_rfl⟩
-- emendate/items.Index
def d15r0 : List RO := [
  ⟨.box (.tmp 0), (some 3), none, [], none⟩,
  ⟨.box (.tmp 1), (some 4), none, [], none⟩,
  ⟨.box (.tmp 2), (some 5), none, [], none⟩,
  ⟨.mov (.con (.v (.int .i64 0))), (some 6), none, [], none⟩,
  ⟨.mov (.con (.v (.bool false))), (some 7), none, [3], none⟩]
def d15r1 : List RO := [
  ⟨.addOff 0 (.tmp 5), (some 8), none, [], none⟩,
  ⟨.load 1 false (.tmp 8), (some 9), none, [0], none⟩,
  ⟨.bin .lss (.tmp 9) (.con (.v (.int .i64 0))), (some 10), none, [1], none⟩,
  ⟨.mov (.tmp 10), (some 11), none, [2], none⟩,
  ⟨.addOff 0 (.tmp 5), (some 12), (some (11, false)), [3], none⟩,
  ⟨.load 1 false (.tmp 12), (some 13), (some (11, false)), [4, 3], none⟩,
  ⟨.addOff 1 (.tmp 3), (some 14), (some (11, false)), [3], none⟩,
  ⟨.load 1 false (.tmp 14), (some 15), (some (11, false)), [6, 3], none⟩,
  ⟨.bin .geq (.tmp 13) (.tmp 15), (some 16), (some (11, false)), [5, 7, 3], none⟩,
  ⟨.pick (.tmp 11) (.con (.v (.bool true))) (.tmp 16), (some 17), none, [3, 8], none⟩,
  ⟨.mov (.tmp 17), (some 18), none, [9, 3], none⟩,
  ⟨.addOff 1 (.tmp 5), (some 19), (some (18, false)), [10], none⟩,
  ⟨.load 1 false (.tmp 19), (some 20), (some (18, false)), [11, 10], none⟩,
  ⟨.bin .lss (.tmp 20) (.con (.v (.int .i64 0))), (some 21), (some (18, false)), [12, 10], none⟩,
  ⟨.pick (.tmp 18) (.con (.v (.bool true))) (.tmp 21), (some 22), none, [10, 13], none⟩,
  ⟨.mov (.tmp 22), (some 23), none, [14, 10], none⟩,
  ⟨.addOff 2 (.tmp 5), (some 24), (some (23, false)), [15], none⟩,
  ⟨.load 1 false (.tmp 24), (some 25), (some (23, false)), [16, 15], none⟩,
  ⟨.addOff 1 (.tmp 5), (some 26), (some (23, false)), [15], none⟩,
  ⟨.load 1 false (.tmp 26), (some 27), (some (23, false)), [18, 15], none⟩,
  ⟨.bin .lss (.tmp 25) (.tmp 27), (some 28), (some (23, false)), [17, 19, 15], none⟩,
  ⟨.pick (.tmp 23) (.con (.v (.bool true))) (.tmp 28), (some 29), none, [15, 20], none⟩,
  ⟨.mov (.tmp 29), (some 30), none, [21, 15], none⟩,
  ⟨.addOff 2 (.tmp 5), (some 31), (some (30, false)), [22], none⟩,
  ⟨.load 1 false (.tmp 31), (some 32), (some (30, false)), [23, 22], none⟩,
  ⟨.addOff 0 (.tmp 4), (some 33), (some (30, false)), [22], none⟩,
  ⟨.load 1 false (.tmp 33), (some 34), (some (30, false)), [25, 22], none⟩,
  ⟨.bin .geq (.tmp 32) (.tmp 34), (some 35), (some (30, false)), [24, 26, 22], none⟩,
  ⟨.pick (.tmp 30) (.con (.v (.bool true))) (.tmp 35), (some 36), none, [22, 27], none⟩]
def d15r2 : List RO := [
  ⟨.mov (.con (.v (.int .i64 0))), (some 6), none, [], none⟩,
  ⟨.mov (.con (.v (.bool false))), (some 7), none, [0, 0], none⟩]
def d15r3 : List RO := [
  ⟨.load 4 true (.tmp 3), (some 37), none, [], none⟩,
  ⟨.load 3 true (.tmp 4), (some 38), none, [], none⟩,
  ⟨.call 32 [(.tmp 37), (.tmp 38)], (some 39), none, [0, 1], none⟩,
  ⟨.addOff 0 (.tmp 5), (some 40), none, [], none⟩,
  ⟨.load 1 false (.tmp 40), (some 41), none, [3], none⟩,
  ⟨.addOff 1 (.tmp 5), (some 42), none, [], none⟩,
  ⟨.load 1 false (.tmp 42), (some 43), none, [5], none⟩,
  ⟨.addOff 2 (.tmp 5), (some 44), none, [], none⟩,
  ⟨.load 1 false (.tmp 44), (some 45), none, [7], none⟩,
  ⟨.call 37 [(.tmp 39), (.tmp 41), (.tmp 43), (.tmp 45)], (some 46), none, [2, 4, 6, 8, 2], none⟩,
  ⟨.mov (.tmp 46), (some 6), none, [9, 9, 0, 1, 2, 3, 4, 5, 6, 7, 8, 9], none⟩,
  ⟨.mov (.con (.v (.bool true))), (some 7), none, [10, 0, 1, 2, 3, 4, 5, 6, 7, 8, 9, 10], none⟩]
def d15 : DC := (.seq (.region false d15r0)
  (.seq (.seq (.region false d15r1)
  (.cond (.tmp 36) (.seq (.region false d15r2)
  .ret)
  .skip))
  (.seq (.region true d15r3)
  .ret)))
def d15res : List DRes := [.slot 6, .slot 7]
theorem c15 : CodeOf Try.prog 15 47 d15 d15res := ⟨Try.f15, by kernel_rfl, by kernel_rfl, by kernel_rfl, by kernel_rfl, by kernel_rfl⟩
-- emendate/emendateref39.Count
def d39r0 : List RO := [
  ⟨.box (.tmp 0), (some 2), none, [], none⟩,
  ⟨.box (.tmp 1), (some 3), none, [], none⟩,
  ⟨.mov (.con (.v (.int .i64 0))), (some 4), none, [], none⟩]
def d39r1 : List RO := [
  ⟨.addOff 0 (.tmp 3), (some 5), none, [], none⟩,
  ⟨.load 1 false (.tmp 5), (some 6), none, [0], none⟩,
  ⟨.addOff 0 (.tmp 3), (some 7), none, [], none⟩,
  ⟨.load 1 false (.tmp 7), (some 8), none, [2], none⟩,
  ⟨.bin .add (.tmp 8) (.con (.v (.int .i64 1))), (some 9), none, [3], none⟩,
  ⟨.bin .mul (.tmp 6) (.tmp 9), (some 10), none, [1, 4], none⟩,
  ⟨.bin .quo (.tmp 10) (.con (.v (.int .i64 2))), (some 11), none, [5], none⟩,
  ⟨.addOff 1 (.tmp 2), (some 12), none, [], none⟩,
  ⟨.load 1 false (.tmp 12), (some 13), none, [7], none⟩,
  ⟨.bin .mul (.tmp 11) (.tmp 13), (some 14), none, [6, 8], none⟩,
  ⟨.bin .add (.tmp 14) (.con (.v (.int .i64 1))), (some 15), none, [9], none⟩,
  ⟨.mov (.tmp 15), (some 4), none, [10, 0, 1, 2, 3, 4, 5, 6, 7, 8, 9, 10], none⟩]
def d39 : DC := (.seq (.region false d39r0)
  (.seq (.region false d39r1)
  .ret))
def d39res : List DRes := [.slot 4]
theorem c39 : CodeOf Try.prog 39 16 d39 d39res := ⟨Try.f39, by kernel_rfl, by kernel_rfl, by kernel_rfl, by kernel_rfl, by kernel_rfl⟩
-- emendate/emendateref39.first
def d40r0 : List RO := [
  ⟨.box (.tmp 0), (some 4), none, [], none⟩,
  ⟨.box (.tmp 1), (some 5), none, [], none⟩,
  ⟨.mov (.con (.v (.int .i64 0))), (some 8), none, [], none⟩]
def d40r1 : List RO := [
  ⟨.mov (.con (.v (.int .i64 0))), (some 9), none, [], none⟩]
def d40r2 : List RO := [
  ⟨.mov (.con (.v (.int .i64 0))), (some 10), none, [], none⟩]
def d40r3 : List RO := [
  ⟨.mov (.tmp 10), (some 11), none, [], none⟩,
  ⟨.mov (.tmp 2), (some 12), none, [], none⟩,
  ⟨.bin .lss (.tmp 11) (.tmp 12), (some 13), none, [0, 1], none⟩]
def d40r4 : List RO := [
  ⟨.mov (.tmp 9), (some 16), none, [], none⟩,
  ⟨.addOff 0 (.tmp 5), (some 17), none, [], none⟩,
  ⟨.load 1 false (.tmp 17), (some 18), none, [1], none⟩,
  ⟨.bin .add (.tmp 16) (.tmp 18), (some 19), none, [0, 2], none⟩,
  ⟨.mov (.tmp 10), (some 20), none, [], none⟩,
  ⟨.bin .sub (.tmp 19) (.tmp 20), (some 21), none, [3, 4], none⟩,
  ⟨.mov (.tmp 21), (some 9), none, [5, 0, 1, 2, 3, 4, 5], none⟩]
def d40r5 : List RO := [
  ⟨.mov (.tmp 10), (some 14), none, [], none⟩,
  ⟨.bin .add (.tmp 14) (.con (.v (.int .i64 1))), (some 15), none, [0], none⟩,
  ⟨.mov (.tmp 15), (some 10), none, [1, 0, 1], none⟩]
def d40r6 : List RO := [
  ⟨.mov (.tmp 9), (some 22), none, [], none⟩,
  ⟨.mov (.tmp 3), (some 23), none, [], none⟩,
  ⟨.bin .add (.tmp 22) (.tmp 23), (some 24), none, [0, 1], none⟩,
  ⟨.mov (.tmp 2), (some 25), none, [], none⟩,
  ⟨.bin .sub (.tmp 24) (.tmp 25), (some 26), none, [2, 3], none⟩,
  ⟨.addOff 1 (.tmp 4), (some 27), none, [], none⟩,
  ⟨.load 1 false (.tmp 27), (some 28), none, [5], none⟩,
  ⟨.bin .mul (.tmp 26) (.tmp 28), (some 29), none, [4, 6], none⟩,
  ⟨.mov (.tmp 29), (some 8), none, [7, 0, 1, 2, 3, 4, 5, 6, 7], none⟩]
def d40 : DC := (.seq (.region false d40r0)
  (.seq (.region false d40r1)
  (.seq (.seq (.region false d40r2)
  (.block 0 (.loop (.seq (.seq (.region false d40r3)
  (.cond (.tmp 13) .skip
  (.exit 0)))
  (.seq (.block 1 (.region false d40r4))
  (.region false d40r5))))))
  (.seq (.region false d40r6)
  .ret))))
def d40res : List DRes := [.slot 8]
theorem c40 : CodeOf Try.prog 40 30 d40 d40res := ⟨Try.f40, by kernel_rfl, by kernel_rfl, by kernel_rfl, by kernel_rfl, by kernel_rfl⟩
-- emendate/emendateref39.Index
def d18r0 : List RO := [
  ⟨.box (.tmp 0), (some 3), none, [], none⟩,
  ⟨.box (.tmp 1), (some 4), none, [], none⟩,
  ⟨.box (.tmp 2), (some 5), none, [], none⟩,
  ⟨.mov (.con (.v (.int .i64 0))), (some 6), none, [], none⟩,
  ⟨.mov (.con (.v (.bool false))), (some 7), none, [3], none⟩]
def d18r1 : List RO := [
  ⟨.addOff 0 (.tmp 5), (some 8), none, [], none⟩,
  ⟨.load 1 false (.tmp 8), (some 9), none, [0], none⟩,
  ⟨.bin .lss (.tmp 9) (.con (.v (.int .i64 0))), (some 10), none, [1], none⟩,
  ⟨.mov (.tmp 10), (some 11), none, [2], none⟩,
  ⟨.addOff 0 (.tmp 5), (some 12), (some (11, false)), [3], none⟩,
  ⟨.load 1 false (.tmp 12), (some 13), (some (11, false)), [4, 3], none⟩,
  ⟨.addOff 1 (.tmp 3), (some 14), (some (11, false)), [3], none⟩,
  ⟨.load 1 false (.tmp 14), (some 15), (some (11, false)), [6, 3], none⟩,
  ⟨.bin .geq (.tmp 13) (.tmp 15), (some 16), (some (11, false)), [5, 7, 3], none⟩,
  ⟨.pick (.tmp 11) (.con (.v (.bool true))) (.tmp 16), (some 17), none, [3, 8], none⟩,
  ⟨.mov (.tmp 17), (some 18), none, [9, 3], none⟩,
  ⟨.addOff 1 (.tmp 5), (some 19), (some (18, false)), [10], none⟩,
  ⟨.load 1 false (.tmp 19), (some 20), (some (18, false)), [11, 10], none⟩,
  ⟨.bin .lss (.tmp 20) (.con (.v (.int .i64 0))), (some 21), (some (18, false)), [12, 10], none⟩,
  ⟨.pick (.tmp 18) (.con (.v (.bool true))) (.tmp 21), (some 22), none, [10, 13], none⟩,
  ⟨.mov (.tmp 22), (some 23), none, [14, 10], none⟩,
  ⟨.addOff 2 (.tmp 5), (some 24), (some (23, false)), [15], none⟩,
  ⟨.load 1 false (.tmp 24), (some 25), (some (23, false)), [16, 15], none⟩,
  ⟨.addOff 1 (.tmp 5), (some 26), (some (23, false)), [15], none⟩,
  ⟨.load 1 false (.tmp 26), (some 27), (some (23, false)), [18, 15], none⟩,
  ⟨.bin .lss (.tmp 25) (.tmp 27), (some 28), (some (23, false)), [17, 19, 15], none⟩,
  ⟨.pick (.tmp 23) (.con (.v (.bool true))) (.tmp 28), (some 29), none, [15, 20], none⟩,
  ⟨.mov (.tmp 29), (some 30), none, [21, 15], none⟩,
  ⟨.addOff 2 (.tmp 5), (some 31), (some (30, false)), [22], none⟩,
  ⟨.load 1 false (.tmp 31), (some 32), (some (30, false)), [23, 22], none⟩,
  ⟨.addOff 0 (.tmp 4), (some 33), (some (30, false)), [22], none⟩,
  ⟨.load 1 false (.tmp 33), (some 34), (some (30, false)), [25, 22], none⟩,
  ⟨.bin .geq (.tmp 32) (.tmp 34), (some 35), (some (30, false)), [24, 26, 22], none⟩,
  ⟨.pick (.tmp 30) (.con (.v (.bool true))) (.tmp 35), (some 36), none, [22, 27], none⟩]
def d18r2 : List RO := [
  ⟨.mov (.con (.v (.int .i64 0))), (some 6), none, [], none⟩,
  ⟨.mov (.con (.v (.bool false))), (some 7), none, [0, 0], none⟩]
def d18r3 : List RO := [
  ⟨.load 4 true (.tmp 3), (some 37), none, [], none⟩,
  ⟨.load 3 true (.tmp 4), (some 38), none, [], none⟩,
  ⟨.addOff 1 (.tmp 5), (some 39), none, [], none⟩,
  ⟨.load 1 false (.tmp 39), (some 40), none, [2], none⟩,
  ⟨.addOff 2 (.tmp 5), (some 41), none, [], none⟩,
  ⟨.load 1 false (.tmp 41), (some 42), none, [4], none⟩,
  ⟨.call 40 [(.tmp 37), (.tmp 38), (.tmp 40), (.tmp 42)], (some 43), none, [0, 1, 3, 5], none⟩,
  ⟨.addOff 0 (.tmp 5), (some 44), none, [], none⟩,
  ⟨.load 1 false (.tmp 44), (some 45), none, [7], none⟩,
  ⟨.bin .add (.tmp 43) (.tmp 45), (some 46), none, [6, 8], none⟩,
  ⟨.mov (.tmp 46), (some 6), none, [9, 6, 0, 1, 2, 3, 4, 5, 6, 7, 8, 9], none⟩,
  ⟨.mov (.con (.v (.bool true))), (some 7), none, [10, 0, 1, 2, 3, 4, 5, 6, 7, 8, 9, 10], none⟩]
def d18 : DC := (.seq (.region false d18r0)
  (.seq (.seq (.region false d18r1)
  (.cond (.tmp 36) (.seq (.region false d18r2)
  .ret)
  .skip))
  (.seq (.region true d18r3)
  .ret)))
def d18res : List DRes := [.slot 6, .slot 7]
theorem c18 : CodeOf Try.prog 18 47 d18 d18res := ⟨Try.f18, by kernel_rfl, by kernel_rfl, by kernel_rfl, by kernel_rfl, by kernel_rfl⟩
-- emendate/items.At
def d16r0 : List RO := [
  ⟨.box (.tmp 0), (some 3), none, [], none⟩,
  ⟨.box (.tmp 1), (some 4), none, [], none⟩,
  ⟨.alloc [(.v (.int .i64 0)), (.v (.int .i64 0)), (.v (.int .i64 0))], (some 6), none, [], none⟩,
  ⟨.mov (.con (.v (.bool false))), (some 7), none, [], none⟩]
def d16r1 : List RO := [
  ⟨.mov (.tmp 2), (some 10), none, [], none⟩,
  ⟨.bin .lss (.tmp 10) (.con (.v (.int .i64 0))), (some 11), none, [0], none⟩,
  ⟨.mov (.tmp 11), (some 12), none, [1], none⟩,
  ⟨.mov (.tmp 2), (some 13), (some (12, false)), [2], none⟩,
  ⟨.load 4 true (.tmp 3), (some 14), (some (12, false)), [2], none⟩,
  ⟨.load 3 true (.tmp 4), (some 15), (some (12, false)), [2], none⟩,
  ⟨.call 32 [(.tmp 14), (.tmp 15)], (some 16), (some (12, false)), [4, 5, 2, 2], none⟩,
  ⟨.call 33 [(.tmp 16)], (some 17), (some (12, false)), [6, 6, 2], none⟩,
  ⟨.bin .geq (.tmp 13) (.tmp 17), (some 18), (some (12, false)), [3, 7, 2], none⟩,
  ⟨.pick (.tmp 12) (.con (.v (.bool true))) (.tmp 18), (some 19), none, [2, 8], none⟩]
def d16r2 : List RO := [
  ⟨.build [(.v (.int .i64 0)), (.v (.int .i64 0)), (.v (.int .i64 0))] [], (some 20), none, [], none⟩,
  ⟨.store 3 (.tmp 6) (.tmp 20), none, none, [0, 0], none⟩,
  ⟨.mov (.con (.v (.bool false))), (some 7), none, [1, 0, 1], none⟩]
def d16r3 : List RO := [
  ⟨.mov (.tmp 2), (some 21), none, [], none⟩,
  ⟨.addOff 1 (.tmp 3), (some 22), none, [], none⟩,
  ⟨.load 1 false (.tmp 22), (some 23), none, [1], none⟩,
  ⟨.bin .quo (.tmp 21) (.tmp 23), (some 24), none, [0, 2], none⟩,
  ⟨.mov (.tmp 24), (some 8), none, [3, 0, 1, 2, 3], none⟩]
def d16r4 : List RO := [
  ⟨.mov (.con (.v (.int .i64 0))), (some 9), none, [], none⟩]
def d16r5 : List RO := [
  ⟨.mov (.tmp 8), (some 25), none, [], none⟩,
  ⟨.addOff 0 (.tmp 4), (some 26), none, [], none⟩,
  ⟨.load 1 false (.tmp 26), (some 27), none, [1], none⟩,
  ⟨.mov (.tmp 9), (some 28), none, [], none⟩,
  ⟨.bin .sub (.tmp 27) (.tmp 28), (some 29), none, [2, 3], none⟩,
  ⟨.bin .geq (.tmp 25) (.tmp 29), (some 30), none, [0, 4], none⟩]
def d16r6 : List RO := [
  ⟨.mov (.tmp 8), (some 31), none, [], none⟩,
  ⟨.addOff 0 (.tmp 4), (some 32), none, [], none⟩,
  ⟨.load 1 false (.tmp 32), (some 33), none, [1], none⟩,
  ⟨.mov (.tmp 9), (some 34), none, [], none⟩,
  ⟨.bin .sub (.tmp 33) (.tmp 34), (some 35), none, [2, 3], none⟩,
  ⟨.bin .sub (.tmp 31) (.tmp 35), (some 36), none, [0, 4], none⟩,
  ⟨.mov (.tmp 36), (some 8), none, [5, 0, 1, 2, 3, 4, 5], none⟩]
def d16r7 : List RO := [
  ⟨.mov (.tmp 9), (some 37), none, [], none⟩,
  ⟨.bin .add (.tmp 37) (.con (.v (.int .i64 1))), (some 38), none, [0], none⟩,
  ⟨.mov (.tmp 38), (some 9), none, [1, 0, 1], none⟩]
def d16r8 : List RO := [
  ⟨.mov (.tmp 2), (some 39), none, [], none⟩,
  ⟨.addOff 1 (.tmp 3), (some 40), none, [], none⟩,
  ⟨.load 1 false (.tmp 40), (some 41), none, [1], none⟩,
  ⟨.bin .rem (.tmp 39) (.tmp 41), (some 42), none, [0, 2], none⟩,
  ⟨.mov (.tmp 9), (some 43), none, [], none⟩,
  ⟨.mov (.tmp 9), (some 44), none, [], none⟩,
  ⟨.mov (.tmp 8), (some 45), none, [], none⟩,
  ⟨.bin .add (.tmp 44) (.tmp 45), (some 46), none, [5, 6], none⟩,
  ⟨.build [(.v (.int .i64 0)), (.v (.int .i64 0)), (.v (.int .i64 0))] [(0, 1, (.tmp 42)), (1, 1, (.tmp 43)), (2, 1, (.tmp 46))], (some 47), none, [3, 4, 7], none⟩,
  ⟨.store 3 (.tmp 6) (.tmp 47), none, none, [8, 0, 1, 2, 3, 4, 5, 6, 7, 8], none⟩,
  ⟨.mov (.con (.v (.bool true))), (some 7), none, [9, 0, 1, 2, 3, 4, 5, 6, 7, 8, 9], none⟩]
def d16 : DC := (.seq (.region false d16r0)
  (.seq (.seq (.region false d16r1)
  (.cond (.tmp 19) (.seq (.region false d16r2)
  .ret)
  .skip))
  (.seq (.region false d16r3)
  (.seq (.region false d16r4)
  (.seq (.block 0 (.loop (.seq (.seq (.region false d16r5)
  (.cond (.tmp 30) .skip
  (.exit 0)))
  (.block 1 (.seq (.region false d16r6)
  (.region false d16r7))))))
  (.seq (.region false d16r8)
  .ret))))))
def d16res : List DRes := [.cell 6 3 true, .slot 7]
theorem c16 : CodeOf Try.prog 16 48 d16 d16res := ⟨Try.f16, by kernel_rfl, by kernel_rfl, by kernel_rfl, by kernel_rfl, by kernel_rfl⟩
-- emendate/emendateref39.At
def d19r0 : List RO := [
  ⟨.box (.tmp 0), (some 3), none, [], none⟩,
  ⟨.box (.tmp 1), (some 4), none, [], none⟩,
  ⟨.alloc [(.v (.int .i64 0)), (.v (.int .i64 0)), (.v (.int .i64 0))], (some 6), none, [], none⟩,
  ⟨.mov (.con (.v (.bool false))), (some 7), none, [], none⟩]
def d19r1 : List RO := [
  ⟨.mov (.tmp 2), (some 11), none, [], none⟩,
  ⟨.bin .lss (.tmp 11) (.con (.v (.int .i64 0))), (some 12), none, [0], none⟩,
  ⟨.mov (.tmp 12), (some 13), none, [1], none⟩,
  ⟨.mov (.tmp 2), (some 14), (some (13, false)), [2], none⟩,
  ⟨.load 4 true (.tmp 3), (some 15), (some (13, false)), [2], none⟩,
  ⟨.load 3 true (.tmp 4), (some 16), (some (13, false)), [2], none⟩,
  ⟨.call 39 [(.tmp 15), (.tmp 16)], (some 17), (some (13, false)), [4, 5, 2, 2], none⟩,
  ⟨.bin .sub (.tmp 17) (.con (.v (.int .i64 1))), (some 18), (some (13, false)), [6, 2], none⟩,
  ⟨.bin .geq (.tmp 14) (.tmp 18), (some 19), (some (13, false)), [3, 7, 2], none⟩,
  ⟨.pick (.tmp 13) (.con (.v (.bool true))) (.tmp 19), (some 20), none, [2, 8], none⟩]
def d19r2 : List RO := [
  ⟨.build [(.v (.int .i64 0)), (.v (.int .i64 0)), (.v (.int .i64 0))] [], (some 21), none, [], none⟩,
  ⟨.store 3 (.tmp 6) (.tmp 21), none, none, [0, 0], none⟩,
  ⟨.mov (.con (.v (.bool false))), (some 7), none, [1, 0, 1], none⟩]
def d19r3 : List RO := [
  ⟨.mov (.con (.v (.int .i64 0))), (some 8), none, [], none⟩]
def d19r4 : List RO := [
  ⟨.mov (.tmp 8), (some 22), none, [], none⟩,
  ⟨.addOff 0 (.tmp 4), (some 23), none, [], none⟩,
  ⟨.load 1 false (.tmp 23), (some 24), none, [1], none⟩,
  ⟨.bin .lss (.tmp 22) (.tmp 24), (some 25), none, [0, 2], none⟩]
def d19r5 : List RO := [
  ⟨.mov (.tmp 8), (some 28), none, [], none⟩,
  ⟨.mov (.tmp 28), (some 9), none, [0, 0], none⟩]
def d19r6 : List RO := [
  ⟨.mov (.tmp 9), (some 29), none, [], none⟩,
  ⟨.addOff 0 (.tmp 4), (some 30), none, [], none⟩,
  ⟨.load 1 false (.tmp 30), (some 31), none, [1], none⟩,
  ⟨.bin .lss (.tmp 29) (.tmp 31), (some 32), none, [0, 2], none⟩]
def d19r7 : List RO := [
  ⟨.load 4 true (.tmp 3), (some 35), none, [], none⟩,
  ⟨.load 3 true (.tmp 4), (some 36), none, [], none⟩,
  ⟨.mov (.tmp 8), (some 37), none, [], none⟩,
  ⟨.mov (.tmp 9), (some 38), none, [], none⟩,
  ⟨.call 40 [(.tmp 35), (.tmp 36), (.tmp 37), (.tmp 38)], (some 39), none, [0, 1, 2, 3], none⟩,
  ⟨.mov (.tmp 39), (some 10), none, [4, 4, 0, 1, 2, 3, 4], none⟩]
def d19r8 : List RO := [
  ⟨.mov (.tmp 2), (some 40), none, [], none⟩,
  ⟨.mov (.tmp 10), (some 41), none, [], none⟩,
  ⟨.addOff 1 (.tmp 3), (some 42), none, [], none⟩,
  ⟨.load 1 false (.tmp 42), (some 43), none, [2], none⟩,
  ⟨.bin .add (.tmp 41) (.tmp 43), (some 44), none, [1, 3], none⟩,
  ⟨.bin .lss (.tmp 40) (.tmp 44), (some 45), none, [0, 4], none⟩]
def d19r9 : List RO := [
  ⟨.mov (.tmp 2), (some 46), none, [], none⟩,
  ⟨.mov (.tmp 10), (some 47), none, [], none⟩,
  ⟨.bin .sub (.tmp 46) (.tmp 47), (some 48), none, [0, 1], none⟩,
  ⟨.mov (.tmp 8), (some 49), none, [], none⟩,
  ⟨.mov (.tmp 9), (some 50), none, [], none⟩,
  ⟨.build [(.v (.int .i64 0)), (.v (.int .i64 0)), (.v (.int .i64 0))] [(0, 1, (.tmp 48)), (1, 1, (.tmp 49)), (2, 1, (.tmp 50))], (some 51), none, [2, 3, 4], none⟩,
  ⟨.store 3 (.tmp 6) (.tmp 51), none, none, [5, 0, 1, 2, 3, 4, 5], none⟩,
  ⟨.mov (.con (.v (.bool true))), (some 7), none, [6, 0, 1, 2, 3, 4, 5, 6], none⟩]
def d19r10 : List RO := [
  ⟨.mov (.tmp 9), (some 33), none, [], none⟩,
  ⟨.bin .add (.tmp 33) (.con (.v (.int .i64 1))), (some 34), none, [0], none⟩,
  ⟨.mov (.tmp 34), (some 9), none, [1, 0, 1], none⟩]
def d19r11 : List RO := [
  ⟨.mov (.tmp 8), (some 26), none, [], none⟩,
  ⟨.bin .add (.tmp 26) (.con (.v (.int .i64 1))), (some 27), none, [0], none⟩,
  ⟨.mov (.tmp 27), (some 8), none, [1, 0, 1], none⟩]
def d19r12 : List RO := [
  ⟨.build [(.v (.int .i64 0)), (.v (.int .i64 0)), (.v (.int .i64 0))] [], (some 52), none, [], none⟩,
  ⟨.store 3 (.tmp 6) (.tmp 52), none, none, [0, 0], none⟩,
  ⟨.mov (.con (.v (.bool false))), (some 7), none, [1, 0, 1], none⟩]
def d19 : DC := (.seq (.region false d19r0)
  (.seq (.seq (.region false d19r1)
  (.cond (.tmp 20) (.seq (.region false d19r2)
  .ret)
  .skip))
  (.seq (.seq (.region false d19r3)
  (.block 0 (.loop (.seq (.seq (.region false d19r4)
  (.cond (.tmp 25) .skip
  (.exit 0)))
  (.seq (.block 1 (.seq (.region false d19r5)
  (.block 2 (.loop (.seq (.seq (.region false d19r6)
  (.cond (.tmp 32) .skip
  (.exit 2)))
  (.seq (.block 3 (.seq (.region false d19r7)
  (.seq (.region false d19r8)
  (.cond (.tmp 45) (.seq (.region false d19r9)
  .ret)
  .skip))))
  (.region false d19r10)))))))
  (.region false d19r11))))))
  (.seq (.region false d19r12)
  .ret))))
def d19res : List DRes := [.cell 6 3 true, .slot 7]
theorem c19 : CodeOf Try.prog 19 53 d19 d19res := ⟨Try.f19, by kernel_rfl, by kernel_rfl, by kernel_rfl, by kernel_rfl, by kernel_rfl⟩
-- emendate/emendateref39.SameEdges
def d13r0 : List RO := [
  ⟨.mov (.con (.v (.bool false))), (some 4), none, [], none⟩]
def d13r1 : List RO := [
  ⟨.mov (.tmp 0), (some 7), none, [], none⟩,
  ⟨.len (.tmp 7), (some 8), none, [0], none⟩,
  ⟨.mov (.tmp 1), (some 9), none, [], none⟩,
  ⟨.len (.tmp 9), (some 10), none, [2], none⟩,
  ⟨.bin .neq (.tmp 8) (.tmp 10), (some 11), none, [1, 3], none⟩]
def d13r2 : List RO := [
  ⟨.mov (.con (.v (.bool false))), (some 4), none, [], none⟩]
def d13r3 : List RO := [
  ⟨.mov (.con (.v (.int .i64 0))), (some 5), none, [], none⟩]
def d13r4 : List RO := [
  ⟨.mov (.tmp 5), (some 12), none, [], none⟩,
  ⟨.mov (.tmp 0), (some 13), none, [], none⟩,
  ⟨.len (.tmp 13), (some 14), none, [1], none⟩,
  ⟨.bin .lss (.tmp 12) (.tmp 14), (some 15), none, [0, 2], none⟩]
def d13r5 : List RO := [
  ⟨.mov (.tmp 0), (some 18), none, [], none⟩,
  ⟨.mov (.tmp 5), (some 19), none, [], none⟩,
  ⟨.idxAddr 5 (.tmp 18) (.tmp 19), (some 20), none, [0, 1], none⟩,
  ⟨.addOff 0 (.tmp 20), (some 21), none, [2], none⟩,
  ⟨.load 1 false (.tmp 21), (some 22), none, [3], none⟩,
  ⟨.mov (.tmp 1), (some 23), none, [], none⟩,
  ⟨.mov (.tmp 5), (some 24), none, [], none⟩,
  ⟨.idxAddr 5 (.tmp 23) (.tmp 24), (some 25), none, [5, 6], none⟩,
  ⟨.addOff 0 (.tmp 25), (some 26), none, [7], none⟩,
  ⟨.load 1 false (.tmp 26), (some 27), none, [8], none⟩,
  ⟨.bin .neq (.tmp 22) (.tmp 27), (some 28), none, [4, 9], none⟩,
  ⟨.mov (.tmp 28), (some 29), none, [10], none⟩,
  ⟨.mov (.tmp 0), (some 30), (some (29, false)), [11], none⟩,
  ⟨.mov (.tmp 5), (some 31), (some (29, false)), [11], none⟩,
  ⟨.idxAddr 5 (.tmp 30) (.tmp 31), (some 32), (some (29, false)), [12, 13, 11], none⟩,
  ⟨.addOff 2 (.tmp 32), (some 33), (some (29, false)), [14, 11], none⟩,
  ⟨.load 1 false (.tmp 33), (some 34), (some (29, false)), [15, 11], none⟩,
  ⟨.mov (.tmp 1), (some 35), (some (29, false)), [11], none⟩,
  ⟨.mov (.tmp 5), (some 36), (some (29, false)), [11], none⟩,
  ⟨.idxAddr 5 (.tmp 35) (.tmp 36), (some 37), (some (29, false)), [17, 18, 11], none⟩,
  ⟨.addOff 2 (.tmp 37), (some 38), (some (29, false)), [19, 11], none⟩,
  ⟨.load 1 false (.tmp 38), (some 39), (some (29, false)), [20, 11], none⟩,
  ⟨.bin .neq (.tmp 34) (.tmp 39), (some 40), (some (29, false)), [16, 21, 11], none⟩,
  ⟨.pick (.tmp 29) (.con (.v (.bool true))) (.tmp 40), (some 41), none, [11, 22], none⟩,
  ⟨.mov (.tmp 41), (some 42), none, [23, 11], none⟩,
  ⟨.mov (.tmp 0), (some 43), (some (42, false)), [24], none⟩,
  ⟨.mov (.tmp 5), (some 44), (some (42, false)), [24], none⟩,
  ⟨.idxAddr 5 (.tmp 43) (.tmp 44), (some 45), (some (42, false)), [25, 26, 24], none⟩,
  ⟨.addOff 3 (.tmp 45), (some 46), (some (42, false)), [27, 24], none⟩,
  ⟨.load 2 true (.tmp 46), (some 47), (some (42, false)), [28, 24], none⟩,
  ⟨.mov (.tmp 1), (some 48), (some (42, false)), [24], none⟩,
  ⟨.mov (.tmp 5), (some 49), (some (42, false)), [24], none⟩,
  ⟨.idxAddr 5 (.tmp 48) (.tmp 49), (some 50), (some (42, false)), [30, 31, 24], none⟩,
  ⟨.addOff 3 (.tmp 50), (some 51), (some (42, false)), [32, 24], none⟩,
  ⟨.load 2 true (.tmp 51), (some 52), (some (42, false)), [33, 24], none⟩,
  ⟨.eqT true true [(.int .i64), (.int .i64)] (.tmp 47) (.tmp 52), (some 53), (some (42, false)), [29, 34, 24], none⟩,
  ⟨.pick (.tmp 42) (.con (.v (.bool true))) (.tmp 53), (some 54), none, [24, 35], none⟩,
  ⟨.mov (.tmp 54), (some 55), none, [36, 24], none⟩,
  ⟨.mov (.tmp 0), (some 56), (some (55, false)), [37], none⟩,
  ⟨.mov (.tmp 5), (some 57), (some (55, false)), [37], none⟩,
  ⟨.idxAddr 5 (.tmp 56) (.tmp 57), (some 58), (some (55, false)), [38, 39, 37], none⟩,
  ⟨.addOff 1 (.tmp 58), (some 59), (some (55, false)), [40, 37], none⟩,
  ⟨.load 1 false (.tmp 59), (some 60), (some (55, false)), [41, 37], none⟩,
  ⟨.len (.tmp 60), (some 61), (some (55, false)), [42, 37], none⟩,
  ⟨.mov (.tmp 1), (some 62), (some (55, false)), [37], none⟩,
  ⟨.mov (.tmp 5), (some 63), (some (55, false)), [37], none⟩,
  ⟨.idxAddr 5 (.tmp 62) (.tmp 63), (some 64), (some (55, false)), [44, 45, 37], none⟩,
  ⟨.addOff 1 (.tmp 64), (some 65), (some (55, false)), [46, 37], none⟩,
  ⟨.load 1 false (.tmp 65), (some 66), (some (55, false)), [47, 37], none⟩,
  ⟨.len (.tmp 66), (some 67), (some (55, false)), [48, 37], none⟩,
  ⟨.bin .neq (.tmp 61) (.tmp 67), (some 68), (some (55, false)), [43, 49, 37], none⟩,
  ⟨.pick (.tmp 55) (.con (.v (.bool true))) (.tmp 68), (some 69), none, [37, 50], none⟩]
def d13r6 : List RO := [
  ⟨.mov (.con (.v (.bool false))), (some 4), none, [], none⟩]
def d13r7 : List RO := [
  ⟨.mov (.con (.v (.int .i64 0))), (some 6), none, [], none⟩]
def d13r8 : List RO := [
  ⟨.mov (.tmp 6), (some 70), none, [], none⟩,
  ⟨.mov (.tmp 0), (some 71), none, [], none⟩,
  ⟨.mov (.tmp 5), (some 72), none, [], none⟩,
  ⟨.idxAddr 5 (.tmp 71) (.tmp 72), (some 73), none, [1, 2], none⟩,
  ⟨.addOff 1 (.tmp 73), (some 74), none, [3], none⟩,
  ⟨.load 1 false (.tmp 74), (some 75), none, [4], none⟩,
  ⟨.len (.tmp 75), (some 76), none, [5], none⟩,
  ⟨.bin .lss (.tmp 70) (.tmp 76), (some 77), none, [0, 6], none⟩]
def d13r9 : List RO := [
  ⟨.mov (.tmp 0), (some 80), none, [], none⟩,
  ⟨.mov (.tmp 5), (some 81), none, [], none⟩,
  ⟨.idxAddr 5 (.tmp 80) (.tmp 81), (some 82), none, [0, 1], none⟩,
  ⟨.addOff 1 (.tmp 82), (some 83), none, [2], none⟩,
  ⟨.load 1 false (.tmp 83), (some 84), none, [3], none⟩,
  ⟨.mov (.tmp 6), (some 85), none, [], none⟩,
  ⟨.idxAddr 1 (.tmp 84) (.tmp 85), (some 86), none, [4, 5], none⟩,
  ⟨.load 1 false (.tmp 86), (some 87), none, [6], none⟩,
  ⟨.mov (.tmp 1), (some 88), none, [], none⟩,
  ⟨.mov (.tmp 5), (some 89), none, [], none⟩,
  ⟨.idxAddr 5 (.tmp 88) (.tmp 89), (some 90), none, [8, 9], none⟩,
  ⟨.addOff 1 (.tmp 90), (some 91), none, [10], none⟩,
  ⟨.load 1 false (.tmp 91), (some 92), none, [11], none⟩,
  ⟨.mov (.tmp 6), (some 93), none, [], none⟩,
  ⟨.idxAddr 1 (.tmp 92) (.tmp 93), (some 94), none, [12, 13], none⟩,
  ⟨.load 1 false (.tmp 94), (some 95), none, [14], none⟩,
  ⟨.bin .neq (.tmp 87) (.tmp 95), (some 96), none, [7, 15], none⟩]
def d13r10 : List RO := [
  ⟨.mov (.con (.v (.bool false))), (some 4), none, [], none⟩]
def d13r11 : List RO := [
  ⟨.mov (.tmp 6), (some 78), none, [], none⟩,
  ⟨.bin .add (.tmp 78) (.con (.v (.int .i64 1))), (some 79), none, [0], none⟩,
  ⟨.mov (.tmp 79), (some 6), none, [1, 0, 1], none⟩]
def d13r12 : List RO := [
  ⟨.mov (.tmp 5), (some 16), none, [], none⟩,
  ⟨.bin .add (.tmp 16) (.con (.v (.int .i64 1))), (some 17), none, [0], none⟩,
  ⟨.mov (.tmp 17), (some 5), none, [1, 0, 1], none⟩]
def d13r13 : List RO := [
  ⟨.mov (.con (.v (.bool true))), (some 4), none, [], none⟩]
def d13 : DC := (.seq (.region false d13r0)
  (.seq (.seq (.region false d13r1)
  (.cond (.tmp 11) (.seq (.region false d13r2)
  .ret)
  .skip))
  (.seq (.seq (.region false d13r3)
  (.block 0 (.loop (.seq (.seq (.region false d13r4)
  (.cond (.tmp 15) .skip
  (.exit 0)))
  (.seq (.block 1 (.seq (.seq (.region true d13r5)
  (.cond (.tmp 69) (.seq (.region false d13r6)
  .ret)
  .skip))
  (.seq (.region false d13r7)
  (.block 2 (.loop (.seq (.seq (.region false d13r8)
  (.cond (.tmp 77) .skip
  (.exit 2)))
  (.seq (.block 3 (.seq (.region true d13r9)
  (.cond (.tmp 96) (.seq (.region false d13r10)
  .ret)
  .skip)))
  (.region false d13r11))))))))
  (.region false d13r12))))))
  (.seq (.region false d13r13)
  .ret))))
def d13res : List DRes := [.slot 4]
theorem c13 : CodeOf Try.prog 13 97 d13 d13res := ⟨Try.f13, by kernel_rfl, by kernel_rfl, by kernel_rfl, by kernel_rfl, by kernel_rfl⟩
-- emendate/emendateref24.Small
def d30r0 : List RO := [
  ⟨.box (.tmp 0), (some 1), none, [], none⟩,
  ⟨.mov (.con (.v (.bool false))), (some 2), none, [], none⟩]
def d30r1 : List RO := [
  ⟨.addOff 1 (.tmp 1), (some 3), none, [], none⟩,
  ⟨.load 1 false (.tmp 3), (some 4), none, [0], none⟩,
  ⟨.bin .leq (.tmp 4) (.con (.v (.int .i64 14))), (some 5), none, [1], none⟩,
  ⟨.mov (.tmp 5), (some 6), none, [2], none⟩,
  ⟨.addOff 3 (.tmp 1), (some 7), (some (6, true)), [3], none⟩,
  ⟨.load 1 false (.tmp 7), (some 8), (some (6, true)), [4, 3], none⟩,
  ⟨.len (.tmp 8), (some 9), (some (6, true)), [5, 3], none⟩,
  ⟨.bin .leq (.tmp 9) (.con (.v (.int .i64 24))), (some 10), (some (6, true)), [6, 3], none⟩,
  ⟨.pick (.tmp 6) (.tmp 10) (.con (.v (.bool false))), (some 11), none, [3, 7], none⟩,
  ⟨.mov (.tmp 11), (some 12), none, [8, 3], none⟩,
  ⟨.addOff 0 (.tmp 1), (some 13), (some (12, true)), [9], none⟩,
  ⟨.load 1 false (.tmp 13), (some 14), (some (12, true)), [10, 9], none⟩,
  ⟨.bin .leq (.tmp 14) (.con (.v (.int .i64 6))), (some 15), (some (12, true)), [11, 9], none⟩,
  ⟨.pick (.tmp 12) (.tmp 15) (.con (.v (.bool false))), (some 16), none, [9, 12], none⟩,
  ⟨.mov (.tmp 16), (some 17), none, [13, 9], none⟩,
  ⟨.load 4 true (.tmp 1), (some 18), (some (17, true)), [14], none⟩,
  ⟨.call 44 [(.tmp 18)], (some 19), (some (17, true)), [15, 14, 14], none⟩,
  ⟨.pick (.tmp 17) (.tmp 19) (.con (.v (.bool false))), (some 20), none, [14, 16], none⟩,
  ⟨.mov (.tmp 20), (some 2), none, [17, 16, 0, 1, 2, 3, 4, 5, 6, 7, 8, 9, 10, 11, 12, 13, 14, 15, 16, 17], none⟩]
def d30 : DC := (.seq (.region false d30r0)
  (.seq (.region false d30r1)
  .ret))
def d30res : List DRes := [.slot 2]
theorem c30 : CodeOf Try.prog 30 21 d30 d30res := ⟨Try.f30, by kernel_rfl, by kernel_rfl, by kernel_rfl, by kernel_rfl, by kernel_rfl⟩
-- emendate/emendateref24.Valid
def d44r0 : List RO := [
  ⟨.box (.tmp 0), (some 1), none, [], none⟩,
  ⟨.mov (.con (.v (.bool false))), (some 2), none, [], none⟩]
def d44r1 : List RO := [
  ⟨.addOff 0 (.tmp 1), (some 6), none, [], none⟩,
  ⟨.load 1 false (.tmp 6), (some 7), none, [0], none⟩,
  ⟨.bin .lss (.tmp 7) (.con (.v (.int .i64 0))), (some 8), none, [1], none⟩,
  ⟨.mov (.tmp 8), (some 9), none, [2], none⟩,
  ⟨.addOff 0 (.tmp 1), (some 10), (some (9, false)), [3], none⟩,
  ⟨.load 1 false (.tmp 10), (some 11), (some (9, false)), [4, 3], none⟩,
  ⟨.bin .gtr (.tmp 11) (.con (.v (.int .i64 120))), (some 12), (some (9, false)), [5, 3], none⟩,
  ⟨.pick (.tmp 9) (.con (.v (.bool true))) (.tmp 12), (some 13), none, [3, 6], none⟩,
  ⟨.mov (.tmp 13), (some 14), none, [7, 3], none⟩,
  ⟨.addOff 1 (.tmp 1), (some 15), (some (14, false)), [8], none⟩,
  ⟨.load 1 false (.tmp 15), (some 16), (some (14, false)), [9, 8], none⟩,
  ⟨.bin .lss (.tmp 16) (.con (.v (.int .i64 1))), (some 17), (some (14, false)), [10, 8], none⟩,
  ⟨.pick (.tmp 14) (.con (.v (.bool true))) (.tmp 17), (some 18), none, [8, 11], none⟩,
  ⟨.mov (.tmp 18), (some 19), none, [12, 8], none⟩,
  ⟨.addOff 1 (.tmp 1), (some 20), (some (19, false)), [13], none⟩,
  ⟨.load 1 false (.tmp 20), (some 21), (some (19, false)), [14, 13], none⟩,
  ⟨.bin .gtr (.tmp 21) (.con (.v (.int .i64 1000))), (some 22), (some (19, false)), [15, 13], none⟩,
  ⟨.pick (.tmp 19) (.con (.v (.bool true))) (.tmp 22), (some 23), none, [13, 16], none⟩,
  ⟨.mov (.tmp 23), (some 24), none, [17, 13], none⟩,
  ⟨.addOff 2 (.tmp 1), (some 25), (some (24, false)), [18], none⟩,
  ⟨.load 1 false (.tmp 25), (some 26), (some (24, false)), [19, 18], none⟩,
  ⟨.bin .lss (.tmp 26) (.con (.v (.int .i64 0))), (some 27), (some (24, false)), [20, 18], none⟩,
  ⟨.pick (.tmp 24) (.con (.v (.bool true))) (.tmp 27), (some 28), none, [18, 21], none⟩,
  ⟨.mov (.tmp 28), (some 29), none, [22, 18], none⟩,
  ⟨.addOff 2 (.tmp 1), (some 30), (some (29, false)), [23], none⟩,
  ⟨.load 1 false (.tmp 30), (some 31), (some (29, false)), [24, 23], none⟩,
  ⟨.addOff 1 (.tmp 1), (some 32), (some (29, false)), [23], none⟩,
  ⟨.load 1 false (.tmp 32), (some 33), (some (29, false)), [26, 23], none⟩,
  ⟨.bin .geq (.tmp 31) (.tmp 33), (some 34), (some (29, false)), [25, 27, 23], none⟩,
  ⟨.pick (.tmp 29) (.con (.v (.bool true))) (.tmp 34), (some 35), none, [23, 28], none⟩,
  ⟨.mov (.tmp 35), (some 36), none, [29, 23], none⟩,
  ⟨.addOff 3 (.tmp 1), (some 37), (some (36, false)), [30], none⟩,
  ⟨.load 1 false (.tmp 37), (some 38), (some (36, false)), [31, 30], none⟩,
  ⟨.len (.tmp 38), (some 39), (some (36, false)), [32, 30], none⟩,
  ⟨.bin .gtr (.tmp 39) (.con (.v (.int .i64 600))), (some 40), (some (36, false)), [33, 30], none⟩,
  ⟨.pick (.tmp 36) (.con (.v (.bool true))) (.tmp 40), (some 41), none, [30, 34], none⟩]
def d44r2 : List RO := [
  ⟨.mov (.con (.v (.bool false))), (some 2), none, [], none⟩]
def d44r3 : List RO := [
  ⟨.mov (.con (.v (.int .i64 0))), (some 3), none, [], none⟩]
def d44r4 : List RO := [
  ⟨.mov (.tmp 3), (some 42), none, [], none⟩,
  ⟨.addOff 3 (.tmp 1), (some 43), none, [], none⟩,
  ⟨.load 1 false (.tmp 43), (some 44), none, [1], none⟩,
  ⟨.len (.tmp 44), (some 45), none, [2], none⟩,
  ⟨.bin .lss (.tmp 42) (.tmp 45), (some 46), none, [0, 3], none⟩]
def d44r5 : List RO := [
  ⟨.addOff 3 (.tmp 1), (some 49), none, [], none⟩,
  ⟨.load 1 false (.tmp 49), (some 50), none, [0], none⟩,
  ⟨.mov (.tmp 3), (some 51), none, [], none⟩,
  ⟨.idxAddr 6 (.tmp 50) (.tmp 51), (some 52), none, [1, 2], none⟩,
  ⟨.load 6 true (.tmp 52), (some 53), none, [3], none⟩,
  ⟨.alloc [(.v (.int .i64 0)), (.v (.int .i64 0)), (.v (.int .i64 0)), (.v (.int .i64 0)), (.v (.int .i64 0)), (.v (.int .i64 0))], (some 4), none, [], none⟩,
  ⟨.store 6 (.tmp 4) (.tmp 53), none, none, [5, 4, 0, 1, 2, 3, 4, 5], none⟩]
def d44r6 : List RO := [
  ⟨.addOff 1 (.tmp 4), (some 54), none, [], none⟩,
  ⟨.load 1 false (.tmp 54), (some 55), none, [0], none⟩,
  ⟨.bin .lss (.tmp 55) (.con (.v (.int .i64 0))), (some 56), none, [1], none⟩,
  ⟨.mov (.tmp 56), (some 57), none, [2], none⟩,
  ⟨.addOff 1 (.tmp 4), (some 58), (some (57, false)), [3], none⟩,
  ⟨.load 1 false (.tmp 58), (some 59), (some (57, false)), [4, 3], none⟩,
  ⟨.addOff 1 (.tmp 1), (some 60), (some (57, false)), [3], none⟩,
  ⟨.load 1 false (.tmp 60), (some 61), (some (57, false)), [6, 3], none⟩,
  ⟨.bin .geq (.tmp 59) (.tmp 61), (some 62), (some (57, false)), [5, 7, 3], none⟩,
  ⟨.pick (.tmp 57) (.con (.v (.bool true))) (.tmp 62), (some 63), none, [3, 8], none⟩,
  ⟨.mov (.tmp 63), (some 64), none, [9, 3], none⟩,
  ⟨.addOff 4 (.tmp 4), (some 65), (some (64, false)), [10], none⟩,
  ⟨.load 1 false (.tmp 65), (some 66), (some (64, false)), [11, 10], none⟩,
  ⟨.bin .lss (.tmp 66) (.con (.v (.int .i64 0))), (some 67), (some (64, false)), [12, 10], none⟩,
  ⟨.pick (.tmp 64) (.con (.v (.bool true))) (.tmp 67), (some 68), none, [10, 13], none⟩,
  ⟨.mov (.tmp 68), (some 69), none, [14, 10], none⟩,
  ⟨.addOff 4 (.tmp 4), (some 70), (some (69, false)), [15], none⟩,
  ⟨.load 1 false (.tmp 70), (some 71), (some (69, false)), [16, 15], none⟩,
  ⟨.bin .gtr (.tmp 71) (.con (.v (.int .i64 1000))), (some 72), (some (69, false)), [17, 15], none⟩,
  ⟨.pick (.tmp 69) (.con (.v (.bool true))) (.tmp 72), (some 73), none, [15, 18], none⟩,
  ⟨.mov (.tmp 73), (some 74), none, [19, 15], none⟩,
  ⟨.addOff 5 (.tmp 4), (some 75), (some (74, false)), [20], none⟩,
  ⟨.load 1 false (.tmp 75), (some 76), (some (74, false)), [21, 20], none⟩,
  ⟨.bin .lss (.tmp 76) (.con (.v (.int .i64 (-1)))), (some 77), (some (74, false)), [22, 20], none⟩,
  ⟨.pick (.tmp 74) (.con (.v (.bool true))) (.tmp 77), (some 78), none, [20, 23], none⟩]
def d44r7 : List RO := [
  ⟨.mov (.con (.v (.bool false))), (some 2), none, [], none⟩]
def d44r8 : List RO := [
  ⟨.mov (.con (.v (.bool false))), (some 5), none, [], none⟩]
def d44r9 : List RO := [
  ⟨.addOff 0 (.tmp 4), (some 79), none, [], none⟩,
  ⟨.load 1 false (.tmp 79), (some 80), none, [0], none⟩]
def d44r10 : List RO := [
  ⟨.bin .eql (.tmp 80) (.con (.v (.int .i64 1))), (some 82), none, [], none⟩,
  ⟨.mov (.tmp 82), (some 81), none, [0], none⟩]
def d44r11 : List RO := [
  ⟨.addOff 2 (.tmp 4), (some 83), none, [], none⟩,
  ⟨.load 1 false (.tmp 83), (some 84), none, [0], none⟩,
  ⟨.bin .eql (.tmp 84) (.con (.v (.int .i64 0))), (some 85), none, [1], none⟩,
  ⟨.mov (.tmp 85), (some 86), none, [2], none⟩,
  ⟨.addOff 3 (.tmp 4), (some 87), (some (86, true)), [3], none⟩,
  ⟨.load 1 false (.tmp 87), (some 88), (some (86, true)), [4, 3], none⟩,
  ⟨.bin .eql (.tmp 88) (.con (.v (.int .i64 0))), (some 89), (some (86, true)), [5, 3], none⟩,
  ⟨.pick (.tmp 86) (.tmp 89) (.con (.v (.bool false))), (some 90), none, [3, 6], none⟩,
  ⟨.mov (.tmp 90), (some 5), none, [7, 3, 0, 1, 2, 3, 4, 5, 6, 7], none⟩]
def d44r12 : List RO := [
  ⟨.bin .eql (.tmp 80) (.con (.v (.int .i64 2))), (some 92), none, [], none⟩,
  ⟨.mov (.tmp 92), (some 91), none, [0], none⟩]
def d44r13 : List RO := [
  ⟨.addOff 2 (.tmp 4), (some 93), none, [], none⟩,
  ⟨.load 1 false (.tmp 93), (some 94), none, [0], none⟩,
  ⟨.bin .geq (.tmp 94) (.con (.v (.int .i64 0))), (some 95), none, [1], none⟩,
  ⟨.mov (.tmp 95), (some 96), none, [2], none⟩,
  ⟨.addOff 2 (.tmp 4), (some 97), (some (96, true)), [3], none⟩,
  ⟨.load 1 false (.tmp 97), (some 98), (some (96, true)), [4, 3], none⟩,
  ⟨.addOff 0 (.tmp 1), (some 99), (some (96, true)), [3], none⟩,
  ⟨.load 1 false (.tmp 99), (some 100), (some (96, true)), [6, 3], none⟩,
  ⟨.bin .lss (.tmp 98) (.tmp 100), (some 101), (some (96, true)), [5, 7, 3], none⟩,
  ⟨.pick (.tmp 96) (.tmp 101) (.con (.v (.bool false))), (some 102), none, [3, 8], none⟩,
  ⟨.mov (.tmp 102), (some 103), none, [9, 3], none⟩,
  ⟨.addOff 3 (.tmp 4), (some 104), (some (103, true)), [10], none⟩,
  ⟨.load 1 false (.tmp 104), (some 105), (some (103, true)), [11, 10], none⟩,
  ⟨.bin .eql (.tmp 105) (.con (.v (.int .i64 0))), (some 106), (some (103, true)), [12, 10], none⟩,
  ⟨.pick (.tmp 103) (.tmp 106) (.con (.v (.bool false))), (some 107), none, [10, 13], none⟩,
  ⟨.mov (.tmp 107), (some 5), none, [14, 10, 0, 1, 2, 3, 4, 5, 6, 7, 8, 9, 10, 11, 12, 13, 14], none⟩]
def d44r14 : List RO := [
  ⟨.bin .eql (.tmp 80) (.con (.v (.int .i64 3))), (some 109), none, [], none⟩,
  ⟨.mov (.tmp 109), (some 108), none, [0], none⟩]
def d44r15 : List RO := [
  ⟨.addOff 2 (.tmp 4), (some 110), none, [], none⟩,
  ⟨.load 1 false (.tmp 110), (some 111), none, [0], none⟩,
  ⟨.bin .geq (.tmp 111) (.con (.v (.int .i64 0))), (some 112), none, [1], none⟩,
  ⟨.mov (.tmp 112), (some 113), none, [2], none⟩,
  ⟨.addOff 2 (.tmp 4), (some 114), (some (113, true)), [3], none⟩,
  ⟨.load 1 false (.tmp 114), (some 115), (some (113, true)), [4, 3], none⟩,
  ⟨.addOff 1 (.tmp 1), (some 116), (some (113, true)), [3], none⟩,
  ⟨.load 1 false (.tmp 116), (some 117), (some (113, true)), [6, 3], none⟩,
  ⟨.bin .lss (.tmp 115) (.tmp 117), (some 118), (some (113, true)), [5, 7, 3], none⟩,
  ⟨.pick (.tmp 113) (.tmp 118) (.con (.v (.bool false))), (some 119), none, [3, 8], none⟩,
  ⟨.mov (.tmp 119), (some 120), none, [9, 3], none⟩,
  ⟨.addOff 3 (.tmp 4), (some 121), (some (120, true)), [10], none⟩,
  ⟨.load 1 false (.tmp 121), (some 122), (some (120, true)), [11, 10], none⟩,
  ⟨.bin .eql (.tmp 122) (.con (.v (.int .i64 0))), (some 123), (some (120, true)), [12, 10], none⟩,
  ⟨.pick (.tmp 120) (.tmp 123) (.con (.v (.bool false))), (some 124), none, [10, 13], none⟩,
  ⟨.mov (.tmp 124), (some 5), none, [14, 10, 0, 1, 2, 3, 4, 5, 6, 7, 8, 9, 10, 11, 12, 13, 14], none⟩]
def d44r16 : List RO := [
  ⟨.bin .eql (.tmp 80) (.con (.v (.int .i64 4))), (some 126), none, [], none⟩,
  ⟨.mov (.tmp 126), (some 125), none, [0], none⟩]
def d44r17 : List RO := [
  ⟨.addOff 2 (.tmp 4), (some 127), none, [], none⟩,
  ⟨.load 1 false (.tmp 127), (some 128), none, [0], none⟩,
  ⟨.bin .geq (.tmp 128) (.con (.v (.int .i64 0))), (some 129), none, [1], none⟩,
  ⟨.mov (.tmp 129), (some 130), none, [2], none⟩,
  ⟨.addOff 2 (.tmp 4), (some 131), (some (130, true)), [3], none⟩,
  ⟨.load 1 false (.tmp 131), (some 132), (some (130, true)), [4, 3], none⟩,
  ⟨.addOff 1 (.tmp 1), (some 133), (some (130, true)), [3], none⟩,
  ⟨.load 1 false (.tmp 133), (some 134), (some (130, true)), [6, 3], none⟩,
  ⟨.bin .lss (.tmp 132) (.tmp 134), (some 135), (some (130, true)), [5, 7, 3], none⟩,
  ⟨.pick (.tmp 130) (.tmp 135) (.con (.v (.bool false))), (some 136), none, [3, 8], none⟩,
  ⟨.mov (.tmp 136), (some 137), none, [9, 3], none⟩,
  ⟨.addOff 3 (.tmp 4), (some 138), (some (137, true)), [10], none⟩,
  ⟨.load 1 false (.tmp 138), (some 139), (some (137, true)), [11, 10], none⟩,
  ⟨.bin .geq (.tmp 139) (.con (.v (.int .i64 0))), (some 140), (some (137, true)), [12, 10], none⟩,
  ⟨.pick (.tmp 137) (.tmp 140) (.con (.v (.bool false))), (some 141), none, [10, 13], none⟩,
  ⟨.mov (.tmp 141), (some 142), none, [14, 10], none⟩,
  ⟨.addOff 3 (.tmp 4), (some 143), (some (142, true)), [15], none⟩,
  ⟨.load 1 false (.tmp 143), (some 144), (some (142, true)), [16, 15], none⟩,
  ⟨.addOff 1 (.tmp 1), (some 145), (some (142, true)), [15], none⟩,
  ⟨.load 1 false (.tmp 145), (some 146), (some (142, true)), [18, 15], none⟩,
  ⟨.bin .lss (.tmp 144) (.tmp 146), (some 147), (some (142, true)), [17, 19, 15], none⟩,
  ⟨.pick (.tmp 142) (.tmp 147) (.con (.v (.bool false))), (some 148), none, [15, 20], none⟩,
  ⟨.mov (.tmp 148), (some 5), none, [21, 15, 0, 1, 2, 3, 4, 5, 6, 7, 8, 9, 10, 11, 12, 13, 14, 15, 16, 17, 18, 19, 20, 21], none⟩]
def d44r18 : List RO := [
  ⟨.mov (.tmp 5), (some 149), none, [], none⟩,
  ⟨.un .not (.tmp 149), (some 150), none, [0], none⟩]
def d44r19 : List RO := [
  ⟨.mov (.con (.v (.bool false))), (some 2), none, [], none⟩]
def d44r20 : List RO := [
  ⟨.mov (.tmp 3), (some 47), none, [], none⟩,
  ⟨.bin .add (.tmp 47) (.con (.v (.int .i64 1))), (some 48), none, [0], none⟩,
  ⟨.mov (.tmp 48), (some 3), none, [1, 0, 1], none⟩]
def d44r21 : List RO := [
  ⟨.mov (.con (.v (.bool true))), (some 2), none, [], none⟩]
def d44 : DC := (.seq (.region false d44r0)
  (.seq (.seq (.region false d44r1)
  (.cond (.tmp 41) (.seq (.region false d44r2)
  .ret)
  .skip))
  (.seq (.seq (.region false d44r3)
  (.block 0 (.loop (.seq (.seq (.region false d44r4)
  (.cond (.tmp 46) .skip
  (.exit 0)))
  (.seq (.block 1 (.seq (.region false d44r5)
  (.seq (.seq (.region false d44r6)
  (.cond (.tmp 78) (.seq (.region false d44r7)
  .ret)
  .skip))
  (.seq (.region false d44r8)
  (.seq (.seq (.region false d44r9)
  (.block 2 (.seq (.region false d44r10)
  (.cond (.tmp 81) (.region false d44r11)
  (.seq (.region false d44r12)
  (.cond (.tmp 91) (.region false d44r13)
  (.seq (.region false d44r14)
  (.cond (.tmp 108) (.region false d44r15)
  (.seq (.region false d44r16)
  (.cond (.tmp 125) (.region false d44r17)
  .skip))))))))))
  (.seq (.region false d44r18)
  (.cond (.tmp 150) (.seq (.region false d44r19)
  .ret)
  .skip)))))))
  (.region false d44r20))))))
  (.seq (.region false d44r21)
  .ret))))
def d44res : List DRes := [.slot 2]
theorem c44 : CodeOf Try.prog 44 151 d44 d44res := ⟨Try.f44, by kernel_rfl, by kernel_rfl, by kernel_rfl, by kernel_rfl, by kernel_rfl⟩
-- emendate/emendateref37.Valid
def d31r0 : List RO := [
  ⟨.box (.tmp 0), (some 2), none, [], none⟩,
  ⟨.mov (.con (.v (.bool false))), (some 4), none, [], none⟩]
def d31r1 : List RO := [
  ⟨.addOff 0 (.tmp 2), (some 8), none, [], none⟩,
  ⟨.load 1 false (.tmp 8), (some 9), none, [0], none⟩,
  ⟨.bin .lss (.tmp 9) (.con (.v (.int .i64 1))), (some 10), none, [1], none⟩,
  ⟨.mov (.tmp 10), (some 11), none, [2], none⟩,
  ⟨.addOff 2 (.tmp 2), (some 12), (some (11, false)), [3], none⟩,
  ⟨.load 1 false (.tmp 12), (some 13), (some (11, false)), [4, 3], none⟩,
  ⟨.len (.tmp 13), (some 14), (some (11, false)), [5, 3], none⟩,
  ⟨.addOff 0 (.tmp 2), (some 15), (some (11, false)), [3], none⟩,
  ⟨.load 1 false (.tmp 15), (some 16), (some (11, false)), [7, 3], none⟩,
  ⟨.bin .neq (.tmp 14) (.tmp 16), (some 17), (some (11, false)), [6, 8, 3], none⟩,
  ⟨.pick (.tmp 11) (.con (.v (.bool true))) (.tmp 17), (some 18), none, [3, 9], none⟩]
def d31r2 : List RO := [
  ⟨.mov (.con (.v (.bool false))), (some 4), none, [], none⟩]
def d31r3 : List RO := [
  ⟨.mov (.con (.v (.int .i64 0))), (some 5), none, [], none⟩]
def d31r4 : List RO := [
  ⟨.mov (.tmp 5), (some 19), none, [], none⟩,
  ⟨.addOff 2 (.tmp 2), (some 20), none, [], none⟩,
  ⟨.load 1 false (.tmp 20), (some 21), none, [1], none⟩,
  ⟨.len (.tmp 21), (some 22), none, [2], none⟩,
  ⟨.bin .lss (.tmp 19) (.tmp 22), (some 23), none, [0, 3], none⟩]
def d31r5 : List RO := [
  ⟨.addOff 2 (.tmp 2), (some 26), none, [], none⟩,
  ⟨.load 1 false (.tmp 26), (some 27), none, [0], none⟩,
  ⟨.mov (.tmp 5), (some 28), none, [], none⟩,
  ⟨.idxAddr 1 (.tmp 27) (.tmp 28), (some 29), none, [1, 2], none⟩,
  ⟨.load 1 false (.tmp 29), (some 30), none, [3], none⟩,
  ⟨.bin .lss (.tmp 30) (.con (.v (.int .i64 0))), (some 31), none, [4], none⟩,
  ⟨.mov (.tmp 31), (some 32), none, [5], none⟩,
  ⟨.addOff 2 (.tmp 2), (some 33), (some (32, false)), [6], none⟩,
  ⟨.load 1 false (.tmp 33), (some 34), (some (32, false)), [7, 6], none⟩,
  ⟨.mov (.tmp 5), (some 35), (some (32, false)), [6], none⟩,
  ⟨.idxAddr 1 (.tmp 34) (.tmp 35), (some 36), (some (32, false)), [8, 9, 6], none⟩,
  ⟨.load 1 false (.tmp 36), (some 37), (some (32, false)), [10, 6], none⟩,
  ⟨.bin .gtr (.tmp 37) (.con (.v (.int .i64 1099511627776))), (some 38), (some (32, false)), [11, 6], none⟩,
  ⟨.pick (.tmp 32) (.con (.v (.bool true))) (.tmp 38), (some 39), none, [6, 12], none⟩]
def d31r6 : List RO := [
  ⟨.mov (.con (.v (.bool false))), (some 4), none, [], none⟩]
def d31r7 : List RO := [
  ⟨.mov (.tmp 5), (some 24), none, [], none⟩,
  ⟨.bin .add (.tmp 24) (.con (.v (.int .i64 1))), (some 25), none, [0], none⟩,
  ⟨.mov (.tmp 25), (some 5), none, [1, 0, 1], none⟩]
def d31r8 : List RO := [
  ⟨.mov (.con (.v (.int .i64 0))), (some 6), none, [], none⟩]
def d31r9 : List RO := [
  ⟨.mov (.tmp 6), (some 40), none, [], none⟩,
  ⟨.addOff 1 (.tmp 2), (some 41), none, [], none⟩,
  ⟨.load 1 false (.tmp 41), (some 42), none, [1], none⟩,
  ⟨.len (.tmp 42), (some 43), none, [2], none⟩,
  ⟨.bin .lss (.tmp 40) (.tmp 43), (some 44), none, [0, 3], none⟩]
def d31r10 : List RO := [
  ⟨.addOff 1 (.tmp 2), (some 47), none, [], none⟩,
  ⟨.load 1 false (.tmp 47), (some 48), none, [0], none⟩,
  ⟨.mov (.tmp 6), (some 49), none, [], none⟩,
  ⟨.idxAddr 5 (.tmp 48) (.tmp 49), (some 50), none, [1, 2], none⟩,
  ⟨.load 5 true (.tmp 50), (some 51), none, [3], none⟩,
  ⟨.alloc [(.v (.int .i64 0)), (.v (.int .i64 0)), (.v (.int .i64 0)), (.v (.int .i64 0)), .nil0], (some 7), none, [], none⟩,
  ⟨.store 5 (.tmp 7) (.tmp 51), none, none, [5, 4, 0, 1, 2, 3, 4, 5], none⟩]
def d31r11 : List RO := [
  ⟨.addOff 0 (.tmp 7), (some 52), none, [], none⟩,
  ⟨.load 1 false (.tmp 52), (some 53), none, [0], none⟩,
  ⟨.bin .lss (.tmp 53) (.con (.v (.int .i64 0))), (some 54), none, [1], none⟩,
  ⟨.mov (.tmp 54), (some 55), none, [2], none⟩,
  ⟨.addOff 0 (.tmp 7), (some 56), (some (55, false)), [3], none⟩,
  ⟨.load 1 false (.tmp 56), (some 57), (some (55, false)), [4, 3], none⟩,
  ⟨.addOff 1 (.tmp 7), (some 58), (some (55, false)), [3], none⟩,
  ⟨.load 1 false (.tmp 58), (some 59), (some (55, false)), [6, 3], none⟩,
  ⟨.bin .gtr (.tmp 57) (.tmp 59), (some 60), (some (55, false)), [5, 7, 3], none⟩,
  ⟨.pick (.tmp 55) (.con (.v (.bool true))) (.tmp 60), (some 61), none, [3, 8], none⟩,
  ⟨.mov (.tmp 61), (some 62), none, [9, 3], none⟩,
  ⟨.addOff 1 (.tmp 7), (some 63), (some (62, false)), [10], none⟩,
  ⟨.load 1 false (.tmp 63), (some 64), (some (62, false)), [11, 10], none⟩,
  ⟨.addOff 0 (.tmp 2), (some 65), (some (62, false)), [10], none⟩,
  ⟨.load 1 false (.tmp 65), (some 66), (some (62, false)), [13, 10], none⟩,
  ⟨.bin .geq (.tmp 64) (.tmp 66), (some 67), (some (62, false)), [12, 14, 10], none⟩,
  ⟨.pick (.tmp 62) (.con (.v (.bool true))) (.tmp 67), (some 68), none, [10, 15], none⟩,
  ⟨.mov (.tmp 68), (some 69), none, [16, 10], none⟩,
  ⟨.addOff 2 (.tmp 7), (some 70), (some (69, false)), [17], none⟩,
  ⟨.load 1 false (.tmp 70), (some 71), (some (69, false)), [18, 17], none⟩,
  ⟨.bin .lss (.tmp 71) (.con (.v (.int .i64 0))), (some 72), (some (69, false)), [19, 17], none⟩,
  ⟨.pick (.tmp 69) (.con (.v (.bool true))) (.tmp 72), (some 73), none, [17, 20], none⟩,
  ⟨.mov (.tmp 73), (some 74), none, [21, 17], none⟩,
  ⟨.addOff 2 (.tmp 7), (some 75), (some (74, false)), [22], none⟩,
  ⟨.load 1 false (.tmp 75), (some 76), (some (74, false)), [23, 22], none⟩,
  ⟨.mov (.tmp 1), (some 77), (some (74, false)), [22], none⟩,
  ⟨.bin .geq (.tmp 76) (.tmp 77), (some 78), (some (74, false)), [24, 25, 22], none⟩,
  ⟨.pick (.tmp 74) (.con (.v (.bool true))) (.tmp 78), (some 79), none, [22, 26], none⟩,
  ⟨.mov (.tmp 79), (some 80), none, [27, 22], none⟩,
  ⟨.addOff 3 (.tmp 7), (some 81), (some (80, false)), [28], none⟩,
  ⟨.load 1 false (.tmp 81), (some 82), (some (80, false)), [29, 28], none⟩,
  ⟨.bin .lss (.tmp 82) (.con (.v (.int .i64 0))), (some 83), (some (80, false)), [30, 28], none⟩,
  ⟨.pick (.tmp 80) (.con (.v (.bool true))) (.tmp 83), (some 84), none, [28, 31], none⟩,
  ⟨.mov (.tmp 84), (some 85), none, [32, 28], none⟩,
  ⟨.addOff 3 (.tmp 7), (some 86), (some (85, false)), [33], none⟩,
  ⟨.load 1 false (.tmp 86), (some 87), (some (85, false)), [34, 33], none⟩,
  ⟨.bin .geq (.tmp 87) (.con (.v (.int .i64 1099511627776))), (some 88), (some (85, false)), [35, 33], none⟩,
  ⟨.pick (.tmp 85) (.con (.v (.bool true))) (.tmp 88), (some 89), none, [33, 36], none⟩,
  ⟨.mov (.tmp 89), (some 90), none, [37, 33], none⟩,
  ⟨.addOff 0 (.tmp 7), (some 91), (some (90, false)), [38], none⟩,
  ⟨.load 1 false (.tmp 91), (some 92), (some (90, false)), [39, 38], none⟩,
  ⟨.addOff 1 (.tmp 7), (some 93), (some (90, false)), [38], none⟩,
  ⟨.load 1 false (.tmp 93), (some 94), (some (90, false)), [41, 38], none⟩,
  ⟨.bin .eql (.tmp 92) (.tmp 94), (some 95), (some (90, false)), [40, 42, 38], none⟩,
  ⟨.mov (.tmp 95), (some 96), (some (90, false)), [43, 38, 38], none⟩,
  ⟨.addOff 3 (.tmp 7), (some 97), (some (96, true)), [44], none⟩,
  ⟨.load 1 false (.tmp 97), (some 98), (some (96, true)), [45, 44], none⟩,
  ⟨.bin .eql (.tmp 98) (.con (.v (.int .i64 0))), (some 99), (some (96, true)), [46, 44], none⟩,
  ⟨.pick (.tmp 96) (.tmp 99) (.con (.v (.bool false))), (some 100), (some (90, false)), [44, 47, 38], none⟩,
  ⟨.pick (.tmp 90) (.con (.v (.bool true))) (.tmp 100), (some 101), none, [38, 48], none⟩,
  ⟨.mov (.tmp 101), (some 102), none, [49, 44], none⟩,
  ⟨.mov (.tmp 6), (some 103), (some (102, false)), [50], none⟩,
  ⟨.bin .gtr (.tmp 103) (.con (.v (.int .i64 0))), (some 104), (some (102, false)), [51, 50], none⟩,
  ⟨.mov (.tmp 104), (some 105), (some (102, false)), [52, 50, 50], none⟩,
  ⟨.addOff 1 (.tmp 2), (some 106), (some (105, true)), [53], none⟩,
  ⟨.load 1 false (.tmp 106), (some 107), (some (105, true)), [54, 53], none⟩,
  ⟨.mov (.tmp 6), (some 108), (some (105, true)), [53], none⟩,
  ⟨.bin .sub (.tmp 108) (.con (.v (.int .i64 1))), (some 109), (some (105, true)), [56, 53], none⟩,
  ⟨.idxAddr 5 (.tmp 107) (.tmp 109), (some 110), (some (105, true)), [55, 57, 53], none⟩,
  ⟨.load 5 true (.tmp 110), (some 111), (some (105, true)), [58, 53], none⟩,
  ⟨.load 5 true (.tmp 7), (some 112), (some (105, true)), [53], none⟩,
  ⟨.call 45 [(.tmp 111), (.tmp 112)], (some 113), (some (105, true)), [59, 60, 53, 53], none⟩,
  ⟨.un .not (.tmp 113), (some 114), (some (105, true)), [61, 53], none⟩,
  ⟨.pick (.tmp 105) (.tmp 114) (.con (.v (.bool false))), (some 115), (some (102, false)), [53, 62, 50], none⟩,
  ⟨.pick (.tmp 102) (.con (.v (.bool true))) (.tmp 115), (some 116), none, [50, 63], none⟩]
def d31r12 : List RO := [
  ⟨.mov (.con (.v (.bool false))), (some 4), none, [], none⟩]
def d31r13 : List RO := [
  ⟨.mov (.tmp 6), (some 45), none, [], none⟩,
  ⟨.bin .add (.tmp 45) (.con (.v (.int .i64 1))), (some 46), none, [0], none⟩,
  ⟨.mov (.tmp 46), (some 6), none, [1, 0, 1], none⟩]
def d31r14 : List RO := [
  ⟨.mov (.con (.v (.bool true))), (some 4), none, [], none⟩]
def d31 : DC := (.seq (.region false d31r0)
  (.seq (.seq (.region false d31r1)
  (.cond (.tmp 18) (.seq (.region false d31r2)
  .ret)
  .skip))
  (.seq (.seq (.region false d31r3)
  (.block 0 (.loop (.seq (.seq (.region false d31r4)
  (.cond (.tmp 23) .skip
  (.exit 0)))
  (.seq (.block 1 (.seq (.region false d31r5)
  (.cond (.tmp 39) (.seq (.region false d31r6)
  .ret)
  .skip)))
  (.region false d31r7))))))
  (.seq (.seq (.region false d31r8)
  (.block 2 (.loop (.seq (.seq (.region false d31r9)
  (.cond (.tmp 44) .skip
  (.exit 2)))
  (.seq (.block 3 (.seq (.region false d31r10)
  (.seq (.region true d31r11)
  (.cond (.tmp 116) (.seq (.region false d31r12)
  .ret)
  .skip))))
  (.region false d31r13))))))
  (.seq (.region false d31r14)
  .ret)))))
def d31res : List DRes := [.slot 4]
theorem c31 : CodeOf Try.prog 31 117 d31 d31res := ⟨Try.f31, by kernel_rfl, by kernel_rfl, by kernel_rfl, by kernel_rfl, by kernel_rfl⟩
-- emendate/emendateref37.Before
def d45r0 : List RO := [
  ⟨.box (.tmp 0), (some 2), none, [], none⟩,
  ⟨.box (.tmp 1), (some 3), none, [], none⟩,
  ⟨.mov (.con (.v (.bool false))), (some 4), none, [], none⟩]
def d45r1 : List RO := [
  ⟨.addOff 0 (.tmp 2), (some 5), none, [], none⟩,
  ⟨.load 1 false (.tmp 5), (some 6), none, [0], none⟩,
  ⟨.addOff 0 (.tmp 3), (some 7), none, [], none⟩,
  ⟨.load 1 false (.tmp 7), (some 8), none, [2], none⟩,
  ⟨.bin .neq (.tmp 6) (.tmp 8), (some 9), none, [1, 3], none⟩]
def d45r2 : List RO := [
  ⟨.addOff 0 (.tmp 2), (some 10), none, [], none⟩,
  ⟨.load 1 false (.tmp 10), (some 11), none, [0], none⟩,
  ⟨.addOff 0 (.tmp 3), (some 12), none, [], none⟩,
  ⟨.load 1 false (.tmp 12), (some 13), none, [2], none⟩,
  ⟨.bin .lss (.tmp 11) (.tmp 13), (some 14), none, [1, 3], none⟩,
  ⟨.mov (.tmp 14), (some 4), none, [4, 0, 1, 2, 3, 4], none⟩]
def d45r3 : List RO := [
  ⟨.addOff 1 (.tmp 2), (some 15), none, [], none⟩,
  ⟨.load 1 false (.tmp 15), (some 16), none, [0], none⟩,
  ⟨.addOff 1 (.tmp 3), (some 17), none, [], none⟩,
  ⟨.load 1 false (.tmp 17), (some 18), none, [2], none⟩,
  ⟨.bin .neq (.tmp 16) (.tmp 18), (some 19), none, [1, 3], none⟩]
def d45r4 : List RO := [
  ⟨.addOff 1 (.tmp 2), (some 20), none, [], none⟩,
  ⟨.load 1 false (.tmp 20), (some 21), none, [0], none⟩,
  ⟨.addOff 1 (.tmp 3), (some 22), none, [], none⟩,
  ⟨.load 1 false (.tmp 22), (some 23), none, [2], none⟩,
  ⟨.bin .lss (.tmp 21) (.tmp 23), (some 24), none, [1, 3], none⟩,
  ⟨.mov (.tmp 24), (some 4), none, [4, 0, 1, 2, 3, 4], none⟩]
def d45r5 : List RO := [
  ⟨.addOff 2 (.tmp 2), (some 25), none, [], none⟩,
  ⟨.load 1 false (.tmp 25), (some 26), none, [0], none⟩,
  ⟨.addOff 2 (.tmp 3), (some 27), none, [], none⟩,
  ⟨.load 1 false (.tmp 27), (some 28), none, [2], none⟩,
  ⟨.bin .lss (.tmp 26) (.tmp 28), (some 29), none, [1, 3], none⟩,
  ⟨.mov (.tmp 29), (some 4), none, [4, 0, 1, 2, 3, 4], none⟩]
def d45 : DC := (.seq (.region false d45r0)
  (.seq (.seq (.region false d45r1)
  (.cond (.tmp 9) (.seq (.region false d45r2)
  .ret)
  .skip))
  (.seq (.seq (.region false d45r3)
  (.cond (.tmp 19) (.seq (.region false d45r4)
  .ret)
  .skip))
  (.seq (.region false d45r5)
  .ret))))
def d45res : List DRes := [.slot 4]
theorem c45 : CodeOf Try.prog 45 30 d45 d45res := ⟨Try.f45, by kernel_rfl, by kernel_rfl, by kernel_rfl, by kernel_rfl, by kernel_rfl⟩
-- emendate/emendateref39.Fair
def d10r0 : List RO := [
  ⟨.box (.tmp 0), (some 2), none, [], none⟩,
  ⟨.box (.tmp 1), (some 3), none, [], none⟩,
  ⟨.mov (.con (.v (.bool false))), (some 4), none, [], none⟩]
def d10r1 : List RO := [
  ⟨.load 4 true (.tmp 2), (some 5), none, [], none⟩,
  ⟨.call 30 [(.tmp 5)], (some 6), none, [0], none⟩,
  ⟨.mov (.tmp 6), (some 7), none, [1, 1], none⟩,
  ⟨.addOff 0 (.tmp 3), (some 8), (some (7, true)), [2], none⟩,
  ⟨.load 1 false (.tmp 8), (some 9), (some (7, true)), [3, 2], none⟩,
  ⟨.bin .leq (.tmp 9) (.con (.v (.int .i64 11))), (some 10), (some (7, true)), [4, 2], none⟩,
  ⟨.pick (.tmp 7) (.tmp 10) (.con (.v (.bool false))), (some 11), none, [2, 5], none⟩,
  ⟨.mov (.tmp 11), (some 12), none, [6, 2], none⟩,
  ⟨.addOff 1 (.tmp 3), (some 13), (some (12, true)), [7], none⟩,
  ⟨.load 1 false (.tmp 13), (some 14), (some (12, true)), [8, 7], none⟩,
  ⟨.len (.tmp 14), (some 15), (some (12, true)), [9, 7], none⟩,
  ⟨.bin .leq (.tmp 15) (.con (.v (.int .i64 120))), (some 16), (some (12, true)), [10, 7], none⟩,
  ⟨.pick (.tmp 12) (.tmp 16) (.con (.v (.bool false))), (some 17), none, [7, 11], none⟩,
  ⟨.mov (.tmp 17), (some 18), none, [12, 7], none⟩,
  ⟨.load 3 true (.tmp 3), (some 19), (some (18, true)), [13], none⟩,
  ⟨.addOff 0 (.tmp 2), (some 20), (some (18, true)), [13], none⟩,
  ⟨.load 1 false (.tmp 20), (some 21), (some (18, true)), [15, 13], none⟩,
  ⟨.call 31 [(.tmp 19), (.tmp 21)], (some 22), (some (18, true)), [14, 16, 13, 13], none⟩,
  ⟨.pick (.tmp 18) (.tmp 22) (.con (.v (.bool false))), (some 23), none, [13, 17], none⟩,
  ⟨.mov (.tmp 23), (some 4), none, [18, 17, 0, 1, 2, 3, 4, 5, 6, 7, 8, 9, 10, 11, 12, 13, 14, 15, 16, 17, 18], none⟩]
def d10 : DC := (.seq (.region false d10r0)
  (.seq (.region false d10r1)
  .ret))
def d10res : List DRes := [.slot 4]
theorem c10 : CodeOf Try.prog 10 24 d10 d10res := ⟨Try.f10, by kernel_rfl, by kernel_rfl, by kernel_rfl, by kernel_rfl, by kernel_rfl⟩
-- emendate/emendatelaw39.example
def d29r0 : List RO := [
  ⟨.alloc [(.v (.int .i64 0)), (.v (.int .i64 0)), (.v (.int .i64 0)), .nil0], (some 0), none, [], none⟩,
  ⟨.alloc [(.v (.int .i64 0)), .nil0, .nil0], (some 1), none, [], none⟩]
def d29r1 : List RO := [
  ⟨.build [(.v (.int .i64 0)), (.v (.int .i64 0)), (.v (.int .i64 0)), (.v (.int .i64 0)), (.v (.int .i64 0)), (.v (.int .i64 0))] [(0, 1, (.con (.v (.int .i64 2)))), (4, 1, (.con (.v (.int .i64 1)))), (5, 1, (.con (.v (.int .i64 (-1)))))], (some 4), none, [], none⟩,
  ⟨.build [(.v (.int .i64 0)), (.v (.int .i64 0)), (.v (.int .i64 0)), (.v (.int .i64 0)), (.v (.int .i64 0)), (.v (.int .i64 0))] [(0, 1, (.con (.v (.int .i64 4)))), (5, 1, (.con (.v (.int .i64 (-1)))))], (some 5), none, [], none⟩,
  ⟨.bslice 2 6 [(.v (.int .i64 0)), (.v (.int .i64 0)), (.v (.int .i64 0)), (.v (.int .i64 0)), (.v (.int .i64 0)), (.v (.int .i64 0)), (.v (.int .i64 0)), (.v (.int .i64 0)), (.v (.int .i64 0)), (.v (.int .i64 0)), (.v (.int .i64 0)), (.v (.int .i64 0))] [(0, 6, (.tmp 4)), (6, 6, (.tmp 5))], (some 6), none, [0, 1], none⟩,
  ⟨.build [(.v (.int .i64 0)), (.v (.int .i64 0)), (.v (.int .i64 0)), .nil0] [(0, 1, (.con (.v (.int .i64 1)))), (1, 1, (.con (.v (.int .i64 1)))), (3, 1, (.tmp 6))], (some 7), none, [2], none⟩,
  ⟨.alloc [(.v (.int .i64 0)), (.v (.int .i64 0)), (.v (.int .i64 0)), .nil0], (some 2), none, [], none⟩,
  ⟨.store 4 (.tmp 2) (.tmp 7), none, none, [4, 3, 0, 1, 2, 3, 4], none⟩]
def d29r2 : List RO := [
  ⟨.build [(.v (.int .i64 0)), (.v (.int .i64 0)), (.v (.int .i64 0)), (.v (.int .i64 0)), .nil0] [(0, 1, (.con (.v (.int .i64 0)))), (1, 1, (.con (.v (.int .i64 1)))), (3, 1, (.con (.v (.int .i64 2))))], (some 8), none, [], none⟩,
  ⟨.bslice 1 5 [(.v (.int .i64 0)), (.v (.int .i64 0)), (.v (.int .i64 0)), (.v (.int .i64 0)), .nil0] [(0, 5, (.tmp 8))], (some 9), none, [0], none⟩,
  ⟨.bslice 2 1 [(.v (.int .i64 0)), (.v (.int .i64 0))] [(0, 1, (.con (.v (.int .i64 1099511627776)))), (1, 1, (.con (.v (.int .i64 0))))], (some 10), none, [], none⟩,
  ⟨.build [(.v (.int .i64 0)), .nil0, .nil0] [(0, 1, (.con (.v (.int .i64 2)))), (1, 1, (.tmp 9)), (2, 1, (.tmp 10))], (some 11), none, [1, 2], none⟩,
  ⟨.alloc [(.v (.int .i64 0)), .nil0, .nil0], (some 3), none, [], none⟩,
  ⟨.store 3 (.tmp 3) (.tmp 11), none, none, [4, 3, 0, 1, 2, 3, 4], none⟩]
def d29r3 : List RO := [
  ⟨.load 4 true (.tmp 2), (some 12), none, [], none⟩,
  ⟨.load 3 true (.tmp 3), (some 13), none, [], none⟩,
  ⟨.store 4 (.tmp 0) (.tmp 12), none, none, [0, 0], none⟩,
  ⟨.store 3 (.tmp 1) (.tmp 13), none, none, [1, 2, 0, 1, 2], none⟩]
def d29 : DC := (.seq (.region false d29r0)
  (.seq (.region false d29r1)
  (.seq (.region false d29r2)
  (.seq (.regionT d29r3)
  .ret))))
def d29res : List DRes := [.cell 0 4 true, .cell 1 3 true]
theorem c29 : CodeOf Try.prog 29 14 d29 d29res := ⟨Try.f29, by kernel_rfl, by kernel_rfl, by kernel_rfl, by kernel_rfl, by kernel_rfl⟩
-- emendate/emendatelaw39.awake
def d9r0 : List RO := [
  ⟨.mov (.con (.v (.bool false))), (some 0), none, [], none⟩]
def d9r1 : List RO := [
  ⟨.call 29 [], (some 12), none, [], none⟩,
  ⟨.mov (.tmp 12), (some 11), none, [0], none⟩,
  ⟨.extract 0 (.tmp 11), (some 13), none, [1], none⟩,
  ⟨.extract 1 (.tmp 11), (some 14), none, [1], none⟩,
  ⟨.alloc [(.v (.int .i64 0)), (.v (.int .i64 0)), (.v (.int .i64 0)), .nil0], (some 1), none, [], none⟩,
  ⟨.alloc [(.v (.int .i64 0)), .nil0, .nil0], (some 2), none, [], none⟩,
  ⟨.store 4 (.tmp 1) (.tmp 13), none, none, [4, 2, 0, 0, 1, 2, 4, 5], none⟩,
  ⟨.store 3 (.tmp 2) (.tmp 14), none, none, [5, 3, 6, 0, 1, 2, 3, 4, 5, 6], none⟩]
def d9r2 : List RO := [
  ⟨.bslice 2 1 [(.v (.int .i64 0)), (.v (.int .i64 0))] [(0, 1, (.con (.v (.int .i64 0)))), (1, 1, (.con (.v (.int .i64 0))))], (some 15), none, [], none⟩,
  ⟨.build [(.v (.int .i64 0)), (.v (.int .i64 0))] [(0, 1, (.con (.v (.int .i64 1)))), (1, 1, (.con (.v (.int .i64 0))))], (some 16), none, [], none⟩,
  ⟨.build [(.v (.int .i64 0)), .nil0, (.v (.int .i64 0)), (.v (.int .i64 0)), (.v (.int .i64 0))] [(0, 1, (.con (.v (.int .i64 0)))), (1, 1, (.tmp 15)), (3, 2, (.tmp 16))], (some 17), none, [0, 1], none⟩,
  ⟨.build [(.v (.int .i64 0)), .nil0, (.v (.int .i64 0)), (.v (.int .i64 0)), (.v (.int .i64 0))] [(0, 1, (.con (.v (.int .i64 1)))), (2, 1, (.con (.v (.int .i64 3))))], (some 18), none, [], none⟩,
  ⟨.bslice 2 1 [(.v (.int .i64 0)), (.v (.int .i64 0))] [(0, 1, (.con (.v (.int .i64 0)))), (1, 1, (.con (.v (.int .i64 1))))], (some 19), none, [], none⟩,
  ⟨.build [(.v (.int .i64 0)), (.v (.int .i64 0))] [(0, 1, (.con (.v (.int .i64 1)))), (1, 1, (.con (.v (.int .i64 0))))], (some 20), none, [], none⟩,
  ⟨.build [(.v (.int .i64 0)), .nil0, (.v (.int .i64 0)), (.v (.int .i64 0)), (.v (.int .i64 0))] [(0, 1, (.con (.v (.int .i64 1)))), (1, 1, (.tmp 19)), (3, 2, (.tmp 20))], (some 21), none, [4, 5], none⟩,
  ⟨.bslice 2 1 [(.v (.int .i64 0)), (.v (.int .i64 0))] [(0, 1, (.con (.v (.int .i64 1)))), (1, 1, (.con (.v (.int .i64 2))))], (some 22), none, [], none⟩,
  ⟨.build [(.v (.int .i64 0)), (.v (.int .i64 0))] [(0, 1, (.con (.v (.int .i64 1)))), (1, 1, (.con (.v (.int .i64 1))))], (some 23), none, [], none⟩,
  ⟨.build [(.v (.int .i64 0)), .nil0, (.v (.int .i64 0)), (.v (.int .i64 0)), (.v (.int .i64 0))] [(0, 1, (.con (.v (.int .i64 1)))), (1, 1, (.tmp 22)), (3, 2, (.tmp 23))], (some 24), none, [7, 8], none⟩,
  ⟨.bslice 2 1 [(.v (.int .i64 0)), (.v (.int .i64 0))] [(0, 1, (.con (.v (.int .i64 2)))), (1, 1, (.con (.v (.int .i64 2))))], (some 25), none, [], none⟩,
  ⟨.build [(.v (.int .i64 0)), (.v (.int .i64 0))] [(0, 1, (.con (.v (.int .i64 1)))), (1, 1, (.con (.v (.int .i64 1))))], (some 26), none, [], none⟩,
  ⟨.build [(.v (.int .i64 0)), .nil0, (.v (.int .i64 0)), (.v (.int .i64 0)), (.v (.int .i64 0))] [(0, 1, (.con (.v (.int .i64 2)))), (1, 1, (.tmp 25)), (3, 2, (.tmp 26))], (some 27), none, [10, 11], none⟩,
  ⟨.bslice 1 1 [(.v (.int .i64 0))] [(0, 1, (.con (.v (.int .i64 1))))], (some 28), none, [], none⟩,
  ⟨.build [(.v (.int .i64 0)), (.v (.int .i64 0))] [(0, 1, (.con (.v (.int .i64 (-1))))), (1, 1, (.con (.v (.int .i64 1))))], (some 29), none, [], none⟩,
  ⟨.build [(.v (.int .i64 0)), .nil0, (.v (.int .i64 0)), (.v (.int .i64 0)), (.v (.int .i64 0))] [(0, 1, (.con (.v (.int .i64 3)))), (1, 1, (.tmp 28)), (3, 2, (.tmp 29))], (some 30), none, [13, 14], none⟩,
  ⟨.bslice 6 5 [(.v (.int .i64 0)), .nil0, (.v (.int .i64 0)), (.v (.int .i64 0)), (.v (.int .i64 0)), (.v (.int .i64 0)), .nil0, (.v (.int .i64 0)), (.v (.int .i64 0)), (.v (.int .i64 0)), (.v (.int .i64 0)), .nil0, (.v (.int .i64 0)), (.v (.int .i64 0)), (.v (.int .i64 0)), (.v (.int .i64 0)), .nil0, (.v (.int .i64 0)), (.v (.int .i64 0)), (.v (.int .i64 0)), (.v (.int .i64 0)), .nil0, (.v (.int .i64 0)), (.v (.int .i64 0)), (.v (.int .i64 0)), (.v (.int .i64 0)), .nil0, (.v (.int .i64 0)), (.v (.int .i64 0)), (.v (.int .i64 0))] [(0, 5, (.tmp 17)), (5, 5, (.tmp 18)), (10, 5, (.tmp 21)), (15, 5, (.tmp 24)), (20, 5, (.tmp 27)), (25, 5, (.tmp 30))], (some 31), none, [2, 3, 6, 9, 12, 15], none⟩,
  ⟨.mov (.tmp 31), (some 3), none, [16, 0, 1, 2, 3, 4, 5, 6, 7, 8, 9, 10, 11, 12, 13, 14, 15, 16], none⟩]
def d9r3 : List RO := [
  ⟨.load 4 true (.tmp 1), (some 32), none, [], none⟩,
  ⟨.load 3 true (.tmp 2), (some 33), none, [], none⟩,
  ⟨.call 11 [(.tmp 32), (.tmp 33)], (some 34), none, [0, 1], none⟩,
  ⟨.alloc [(.v (.int .i64 0)), .nil0], (some 4), none, [], none⟩,
  ⟨.store 2 (.tmp 4) (.tmp 34), none, none, [3, 2, 2, 0, 1, 2, 3], none⟩]
def d9r4 : List RO := [
  ⟨.load 4 true (.tmp 1), (some 36), none, [], none⟩,
  ⟨.load 3 true (.tmp 2), (some 37), none, [], none⟩,
  ⟨.build [(.v (.int .i64 0)), (.v (.int .i64 0)), (.v (.int .i64 0))] [(1, 1, (.con (.v (.int .i64 1)))), (2, 1, (.con (.v (.int .i64 1))))], (some 38), none, [], none⟩,
  ⟨.call 15 [(.tmp 36), (.tmp 37), (.tmp 38)], (some 39), none, [0, 1, 2], none⟩,
  ⟨.mov (.tmp 39), (some 35), none, [3], none⟩,
  ⟨.extract 0 (.tmp 35), (some 40), none, [4], none⟩,
  ⟨.extract 1 (.tmp 35), (some 41), none, [4], none⟩,
  ⟨.mov (.tmp 40), (some 5), none, [5, 3, 0, 1, 2, 3, 4, 5], none⟩,
  ⟨.mov (.tmp 41), (some 6), none, [6, 7, 0, 1, 2, 3, 4, 5, 6, 7], none⟩]
def d9r5 : List RO := [
  ⟨.load 4 true (.tmp 1), (some 43), none, [], none⟩,
  ⟨.load 3 true (.tmp 2), (some 44), none, [], none⟩,
  ⟨.call 16 [(.tmp 43), (.tmp 44), (.con (.v (.int .i64 1)))], (some 45), none, [0, 1], none⟩,
  ⟨.mov (.tmp 45), (some 42), none, [2], none⟩,
  ⟨.extract 0 (.tmp 42), (some 46), none, [3], none⟩,
  ⟨.extract 1 (.tmp 42), (some 47), none, [3], none⟩,
  ⟨.alloc [(.v (.int .i64 0)), (.v (.int .i64 0)), (.v (.int .i64 0))], (some 7), none, [], none⟩,
  ⟨.store 3 (.tmp 7) (.tmp 46), none, none, [6, 4, 2, 0, 1, 2, 3, 4, 6], none⟩,
  ⟨.mov (.tmp 47), (some 8), none, [5, 7, 0, 1, 2, 3, 4, 5, 6, 7], none⟩]
def d9r6 : List RO := [
  ⟨.load 4 true (.tmp 1), (some 49), none, [], none⟩,
  ⟨.load 3 true (.tmp 2), (some 50), none, [], none⟩,
  ⟨.call 16 [(.tmp 49), (.tmp 50), (.con (.v (.int .i64 3)))], (some 51), none, [0, 1], none⟩,
  ⟨.mov (.tmp 51), (some 48), none, [2], none⟩,
  ⟨.extract 0 (.tmp 48), (some 52), none, [3], none⟩,
  ⟨.extract 1 (.tmp 48), (some 53), none, [3], none⟩,
  ⟨.alloc [(.v (.int .i64 0)), (.v (.int .i64 0)), (.v (.int .i64 0))], (some 9), none, [], none⟩,
  ⟨.store 3 (.tmp 9) (.tmp 52), none, none, [6, 4, 2, 0, 1, 2, 3, 4, 6], none⟩,
  ⟨.mov (.tmp 53), (some 10), none, [5, 7, 0, 1, 2, 3, 4, 5, 6, 7], none⟩]
def d9r7 : List RO := [
  ⟨.load 4 true (.tmp 1), (some 54), none, [], none⟩,
  ⟨.load 3 true (.tmp 2), (some 55), none, [], none⟩,
  ⟨.call 17 [(.tmp 54), (.tmp 55)], (some 56), none, [0, 1], none⟩,
  ⟨.bin .eql (.tmp 56) (.con (.v (.int .i64 4))), (some 57), none, [2], none⟩,
  ⟨.mov (.tmp 57), (some 58), none, [3, 2], none⟩,
  ⟨.addOff 0 (.tmp 4), (some 59), (some (58, true)), [4], none⟩,
  ⟨.load 1 false (.tmp 59), (some 60), (some (58, true)), [5, 4], none⟩,
  ⟨.bin .eql (.tmp 60) (.con (.v (.int .i64 4))), (some 61), (some (58, true)), [6, 4], none⟩,
  ⟨.pick (.tmp 58) (.tmp 61) (.con (.v (.bool false))), (some 62), none, [4, 7], none⟩,
  ⟨.mov (.tmp 62), (some 63), none, [8, 4], none⟩,
  ⟨.addOff 1 (.tmp 4), (some 64), (some (63, true)), [9], none⟩,
  ⟨.load 1 false (.tmp 64), (some 65), (some (63, true)), [10, 9], none⟩,
  ⟨.mov (.tmp 3), (some 66), (some (63, true)), [9], none⟩,
  ⟨.call 13 [(.tmp 65), (.tmp 66)], (some 67), (some (63, true)), [11, 12, 9, 9], none⟩,
  ⟨.pick (.tmp 63) (.tmp 67) (.con (.v (.bool false))), (some 68), none, [9, 13], none⟩,
  ⟨.mov (.tmp 68), (some 69), none, [14, 13], none⟩,
  ⟨.mov (.tmp 6), (some 70), (some (69, true)), [15], none⟩,
  ⟨.pick (.tmp 69) (.tmp 70) (.con (.v (.bool false))), (some 71), none, [15, 16], none⟩,
  ⟨.mov (.tmp 71), (some 72), none, [17, 15], none⟩,
  ⟨.mov (.tmp 5), (some 73), (some (72, true)), [18], none⟩,
  ⟨.bin .eql (.tmp 73) (.con (.v (.int .i64 2))), (some 74), (some (72, true)), [19, 18], none⟩,
  ⟨.pick (.tmp 72) (.tmp 74) (.con (.v (.bool false))), (some 75), none, [18, 20], none⟩,
  ⟨.mov (.tmp 75), (some 76), none, [21, 18], none⟩,
  ⟨.mov (.tmp 8), (some 77), (some (76, true)), [22], none⟩,
  ⟨.pick (.tmp 76) (.tmp 77) (.con (.v (.bool false))), (some 78), none, [22, 23], none⟩,
  ⟨.mov (.tmp 78), (some 79), none, [24, 22], none⟩,
  ⟨.load 3 true (.tmp 7), (some 80), (some (79, true)), [25], none⟩,
  ⟨.build [(.v (.int .i64 0)), (.v (.int .i64 0)), (.v (.int .i64 0))] [(2, 1, (.con (.v (.int .i64 1))))], (some 81), (some (79, true)), [25], none⟩,
  ⟨.eqT false true [(.int .i64), (.int .i64), (.int .i64)] (.tmp 80) (.tmp 81), (some 82), (some (79, true)), [26, 27, 25], none⟩,
  ⟨.pick (.tmp 79) (.tmp 82) (.con (.v (.bool false))), (some 83), none, [25, 28], none⟩,
  ⟨.mov (.tmp 83), (some 84), none, [29, 25], none⟩,
  ⟨.mov (.tmp 10), (some 85), (some (84, true)), [30], none⟩,
  ⟨.un .not (.tmp 85), (some 86), (some (84, true)), [31, 30], none⟩,
  ⟨.pick (.tmp 84) (.tmp 86) (.con (.v (.bool false))), (some 87), none, [30, 32], none⟩,
  ⟨.mov (.tmp 87), (some 0), none, [33, 30, 0, 1, 2, 3, 4, 5, 6, 7, 8, 9, 10, 11, 12, 13, 14, 15, 16, 17, 18, 19, 20, 21, 22, 23, 24, 25, 26, 27, 28, 29, 30, 31, 32, 33], none⟩]
def d9 : DC := (.seq (.region false d9r0)
  (.seq (.region false d9r1)
  (.seq (.region false d9r2)
  (.seq (.region false d9r3)
  (.seq (.region false d9r4)
  (.seq (.region false d9r5)
  (.seq (.region false d9r6)
  (.seq (.region false d9r7)
  .ret))))))))
def d9res : List DRes := [.slot 0]
theorem c9 : CodeOf Try.prog 9 88 d9 d9res := ⟨Try.f9, by kernel_rfl, by kernel_rfl, by kernel_rfl, by kernel_rfl, by kernel_rfl⟩
-- emendate/emendatelaw39.ItemsNumbering
def d4r0 : List RO := [
  ⟨.box (.tmp 0), (some 2), none, [], none⟩,
  ⟨.box (.tmp 1), (some 3), none, [], none⟩,
  ⟨.mov (.con (.v (.bool false))), (some 4), none, [], none⟩]
def d4r1 : List RO := [
  ⟨.call 9 [], (some 16), none, [], none⟩,
  ⟨.un .not (.tmp 16), (some 17), none, [0], none⟩]
def d4r2 : List RO := [
  ⟨.mov (.con (.v (.bool false))), (some 4), none, [], none⟩]
def d4r3 : List RO := [
  ⟨.load 4 true (.tmp 2), (some 18), none, [], none⟩,
  ⟨.load 3 true (.tmp 3), (some 19), none, [], none⟩,
  ⟨.call 10 [(.tmp 18), (.tmp 19)], (some 20), none, [0, 1], none⟩,
  ⟨.un .not (.tmp 20), (some 21), none, [2], none⟩]
def d4r4 : List RO := [
  ⟨.mov (.con (.v (.bool true))), (some 4), none, [], none⟩]
def d4r5 : List RO := [
  ⟨.mov (.con (.v (.int .i64 0))), (some 5), none, [], none⟩]
def d4r6 : List RO := [
  ⟨.mov (.con (.v (.int .i64 0))), (some 6), none, [], none⟩]
def d4r7 : List RO := [
  ⟨.mov (.tmp 6), (some 22), none, [], none⟩,
  ⟨.addOff 0 (.tmp 3), (some 23), none, [], none⟩,
  ⟨.load 1 false (.tmp 23), (some 24), none, [1], none⟩,
  ⟨.bin .lss (.tmp 22) (.tmp 24), (some 25), none, [0, 2], none⟩]
def d4r8 : List RO := [
  ⟨.mov (.tmp 6), (some 28), none, [], none⟩,
  ⟨.mov (.tmp 28), (some 7), none, [0, 0], none⟩]
def d4r9 : List RO := [
  ⟨.mov (.tmp 7), (some 29), none, [], none⟩,
  ⟨.addOff 0 (.tmp 3), (some 30), none, [], none⟩,
  ⟨.load 1 false (.tmp 30), (some 31), none, [1], none⟩,
  ⟨.bin .lss (.tmp 29) (.tmp 31), (some 32), none, [0, 2], none⟩]
def d4r10 : List RO := [
  ⟨.mov (.con (.v (.int .i64 0))), (some 8), none, [], none⟩]
def d4r11 : List RO := [
  ⟨.mov (.tmp 8), (some 35), none, [], none⟩,
  ⟨.addOff 1 (.tmp 2), (some 36), none, [], none⟩,
  ⟨.load 1 false (.tmp 36), (some 37), none, [1], none⟩,
  ⟨.bin .lss (.tmp 35) (.tmp 37), (some 38), none, [0, 2], none⟩]
def d4r12 : List RO := [
  ⟨.mov (.tmp 8), (some 41), none, [], none⟩,
  ⟨.mov (.tmp 6), (some 42), none, [], none⟩,
  ⟨.mov (.tmp 7), (some 43), none, [], none⟩,
  ⟨.build [(.v (.int .i64 0)), (.v (.int .i64 0)), (.v (.int .i64 0))] [(0, 1, (.tmp 41)), (1, 1, (.tmp 42)), (2, 1, (.tmp 43))], (some 44), none, [0, 1, 2], none⟩,
  ⟨.alloc [(.v (.int .i64 0)), (.v (.int .i64 0)), (.v (.int .i64 0))], (some 9), none, [], none⟩,
  ⟨.store 3 (.tmp 9) (.tmp 44), none, none, [4, 3, 0, 1, 2, 3, 4], none⟩]
def d4r13 : List RO := [
  ⟨.load 4 true (.tmp 2), (some 46), none, [], none⟩,
  ⟨.load 3 true (.tmp 3), (some 47), none, [], none⟩,
  ⟨.load 3 true (.tmp 9), (some 48), none, [], none⟩,
  ⟨.call 15 [(.tmp 46), (.tmp 47), (.tmp 48)], (some 49), none, [0, 1, 2], none⟩,
  ⟨.mov (.tmp 49), (some 45), none, [3], none⟩,
  ⟨.extract 0 (.tmp 45), (some 50), none, [4], none⟩,
  ⟨.extract 1 (.tmp 45), (some 51), none, [4], none⟩,
  ⟨.mov (.tmp 50), (some 10), none, [5, 3, 0, 1, 2, 3, 4, 5], none⟩,
  ⟨.mov (.tmp 51), (some 11), none, [6, 7, 0, 1, 2, 3, 4, 5, 6, 7], none⟩]
def d4r14 : List RO := [
  ⟨.load 4 true (.tmp 2), (some 53), none, [], none⟩,
  ⟨.load 3 true (.tmp 3), (some 54), none, [], none⟩,
  ⟨.mov (.tmp 5), (some 55), none, [], none⟩,
  ⟨.call 16 [(.tmp 53), (.tmp 54), (.tmp 55)], (some 56), none, [0, 1, 2], none⟩,
  ⟨.mov (.tmp 56), (some 52), none, [3], none⟩,
  ⟨.extract 0 (.tmp 52), (some 57), none, [4], none⟩,
  ⟨.extract 1 (.tmp 52), (some 58), none, [4], none⟩,
  ⟨.alloc [(.v (.int .i64 0)), (.v (.int .i64 0)), (.v (.int .i64 0))], (some 12), none, [], none⟩,
  ⟨.store 3 (.tmp 12) (.tmp 57), none, none, [7, 5, 3, 0, 1, 2, 3, 4, 5, 7], none⟩,
  ⟨.mov (.tmp 58), (some 13), none, [6, 8, 0, 1, 2, 3, 4, 5, 6, 7, 8], none⟩]
def d4r15 : List RO := [
  ⟨.mov (.tmp 11), (some 59), none, [], none⟩,
  ⟨.un .not (.tmp 59), (some 60), none, [0], none⟩,
  ⟨.mov (.tmp 60), (some 61), none, [1], none⟩,
  ⟨.mov (.tmp 10), (some 62), (some (61, false)), [2], none⟩,
  ⟨.mov (.tmp 5), (some 63), (some (61, false)), [2], none⟩,
  ⟨.bin .neq (.tmp 62) (.tmp 63), (some 64), (some (61, false)), [3, 4, 2], none⟩,
  ⟨.pick (.tmp 61) (.con (.v (.bool true))) (.tmp 64), (some 65), none, [2, 5], none⟩,
  ⟨.mov (.tmp 65), (some 66), none, [6, 2], none⟩,
  ⟨.mov (.tmp 13), (some 67), (some (66, false)), [7], none⟩,
  ⟨.un .not (.tmp 67), (some 68), (some (66, false)), [8, 7], none⟩,
  ⟨.pick (.tmp 66) (.con (.v (.bool true))) (.tmp 68), (some 69), none, [7, 9], none⟩,
  ⟨.mov (.tmp 69), (some 70), none, [10, 7], none⟩,
  ⟨.load 3 true (.tmp 12), (some 71), (some (70, false)), [11], none⟩,
  ⟨.load 3 true (.tmp 9), (some 72), (some (70, false)), [11], none⟩,
  ⟨.eqT true true [(.int .i64), (.int .i64), (.int .i64)] (.tmp 71) (.tmp 72), (some 73), (some (70, false)), [12, 13, 11], none⟩,
  ⟨.pick (.tmp 70) (.con (.v (.bool true))) (.tmp 73), (some 74), none, [11, 14], none⟩]
def d4r16 : List RO := [
  ⟨.mov (.con (.v (.bool false))), (some 4), none, [], none⟩]
def d4r17 : List RO := [
  ⟨.mov (.tmp 5), (some 75), none, [], none⟩,
  ⟨.bin .add (.tmp 75) (.con (.v (.int .i64 1))), (some 76), none, [0], none⟩,
  ⟨.mov (.tmp 76), (some 5), none, [1, 0, 1], none⟩]
def d4r18 : List RO := [
  ⟨.mov (.tmp 8), (some 39), none, [], none⟩,
  ⟨.bin .add (.tmp 39) (.con (.v (.int .i64 1))), (some 40), none, [0], none⟩,
  ⟨.mov (.tmp 40), (some 8), none, [1, 0, 1], none⟩]
def d4r19 : List RO := [
  ⟨.mov (.tmp 7), (some 33), none, [], none⟩,
  ⟨.bin .add (.tmp 33) (.con (.v (.int .i64 1))), (some 34), none, [0], none⟩,
  ⟨.mov (.tmp 34), (some 7), none, [1, 0, 1], none⟩]
def d4r20 : List RO := [
  ⟨.mov (.tmp 6), (some 26), none, [], none⟩,
  ⟨.bin .add (.tmp 26) (.con (.v (.int .i64 1))), (some 27), none, [0], none⟩,
  ⟨.mov (.tmp 27), (some 6), none, [1, 0, 1], none⟩]
def d4r21 : List RO := [
  ⟨.load 4 true (.tmp 2), (some 78), none, [], none⟩,
  ⟨.load 3 true (.tmp 3), (some 79), none, [], none⟩,
  ⟨.mov (.tmp 5), (some 80), none, [], none⟩,
  ⟨.call 16 [(.tmp 78), (.tmp 79), (.tmp 80)], (some 81), none, [0, 1, 2], none⟩,
  ⟨.mov (.tmp 81), (some 77), none, [3], none⟩,
  ⟨.extract 0 (.tmp 77), (some 82), none, [4], none⟩,
  ⟨.extract 1 (.tmp 77), (some 83), none, [4], none⟩,
  ⟨.alloc [(.v (.int .i64 0)), (.v (.int .i64 0)), (.v (.int .i64 0))], (some 14), none, [], none⟩,
  ⟨.store 3 (.tmp 14) (.tmp 82), none, none, [7, 5, 3, 0, 1, 2, 3, 4, 5, 7], none⟩,
  ⟨.mov (.tmp 83), (some 15), none, [6, 8, 0, 1, 2, 3, 4, 5, 6, 7, 8], none⟩]
def d4r22 : List RO := [
  ⟨.load 4 true (.tmp 2), (some 84), none, [], none⟩,
  ⟨.load 3 true (.tmp 3), (some 85), none, [], none⟩,
  ⟨.call 17 [(.tmp 84), (.tmp 85)], (some 86), none, [0, 1], none⟩,
  ⟨.mov (.tmp 5), (some 87), none, [], none⟩,
  ⟨.bin .add (.tmp 87) (.con (.v (.int .i64 1))), (some 88), none, [3], none⟩,
  ⟨.bin .eql (.tmp 86) (.tmp 88), (some 89), none, [2, 4], none⟩,
  ⟨.mov (.tmp 89), (some 90), none, [5, 2], none⟩,
  ⟨.mov (.tmp 15), (some 91), (some (90, true)), [6], none⟩,
  ⟨.un .not (.tmp 91), (some 92), (some (90, true)), [7, 6], none⟩,
  ⟨.pick (.tmp 90) (.tmp 92) (.con (.v (.bool false))), (some 93), none, [6, 8], none⟩,
  ⟨.mov (.tmp 93), (some 94), none, [9, 6], none⟩,
  ⟨.load 3 true (.tmp 14), (some 95), (some (94, true)), [10], none⟩,
  ⟨.build [(.v (.int .i64 0)), (.v (.int .i64 0)), (.v (.int .i64 0))] [], (some 96), (some (94, true)), [10], none⟩,
  ⟨.eqT false true [(.int .i64), (.int .i64), (.int .i64)] (.tmp 95) (.tmp 96), (some 97), (some (94, true)), [11, 12, 10], none⟩,
  ⟨.pick (.tmp 94) (.tmp 97) (.con (.v (.bool false))), (some 98), none, [10, 13], none⟩,
  ⟨.mov (.tmp 98), (some 4), none, [14, 10, 0, 1, 2, 3, 4, 5, 6, 7, 8, 9, 10, 11, 12, 13, 14], none⟩]
def d4 : DC := (.seq (.region false d4r0)
  (.seq (.seq (.region false d4r1)
  (.cond (.tmp 17) (.seq (.region false d4r2)
  .ret)
  .skip))
  (.seq (.seq (.region false d4r3)
  (.cond (.tmp 21) (.seq (.region false d4r4)
  .ret)
  .skip))
  (.seq (.region false d4r5)
  (.seq (.seq (.region false d4r6)
  (.block 0 (.loop (.seq (.seq (.region false d4r7)
  (.cond (.tmp 25) .skip
  (.exit 0)))
  (.seq (.block 1 (.seq (.region false d4r8)
  (.block 2 (.loop (.seq (.seq (.region false d4r9)
  (.cond (.tmp 32) .skip
  (.exit 2)))
  (.seq (.block 3 (.seq (.region false d4r10)
  (.block 4 (.loop (.seq (.seq (.region false d4r11)
  (.cond (.tmp 38) .skip
  (.exit 4)))
  (.seq (.block 5 (.seq (.region false d4r12)
  (.seq (.region false d4r13)
  (.seq (.region false d4r14)
  (.seq (.seq (.region false d4r15)
  (.cond (.tmp 74) (.seq (.region false d4r16)
  .ret)
  .skip))
  (.region false d4r17))))))
  (.region false d4r18)))))))
  (.region false d4r19)))))))
  (.region false d4r20))))))
  (.seq (.region false d4r21)
  (.seq (.region false d4r22)
  .ret)))))))
def d4res : List DRes := [.slot 4]
theorem c4 : CodeOf Try.prog 4 99 d4 d4res := ⟨Try.f4, by kernel_rfl, by kernel_rfl, by kernel_rfl, by kernel_rfl, by kernel_rfl⟩
-- emendate/emendatelaw39.ItemsInvalid
def d5r0 : List RO := [
  ⟨.box (.tmp 0), (some 3), none, [], none⟩,
  ⟨.box (.tmp 1), (some 4), none, [], none⟩,
  ⟨.box (.tmp 2), (some 5), none, [], none⟩,
  ⟨.mov (.con (.v (.bool false))), (some 6), none, [], none⟩]
def d5r1 : List RO := [
  ⟨.call 9 [], (some 15), none, [], none⟩,
  ⟨.un .not (.tmp 15), (some 16), none, [0], none⟩]
def d5r2 : List RO := [
  ⟨.mov (.con (.v (.bool false))), (some 6), none, [], none⟩]
def d5r3 : List RO := [
  ⟨.load 4 true (.tmp 3), (some 17), none, [], none⟩,
  ⟨.load 3 true (.tmp 4), (some 18), none, [], none⟩,
  ⟨.call 10 [(.tmp 17), (.tmp 18)], (some 19), none, [0, 1], none⟩,
  ⟨.un .not (.tmp 19), (some 20), none, [2], none⟩]
def d5r4 : List RO := [
  ⟨.mov (.con (.v (.bool true))), (some 6), none, [], none⟩]
def d5r5 : List RO := [
  ⟨.load 4 true (.tmp 3), (some 22), none, [], none⟩,
  ⟨.load 3 true (.tmp 4), (some 23), none, [], none⟩,
  ⟨.load 3 true (.tmp 5), (some 24), none, [], none⟩,
  ⟨.call 15 [(.tmp 22), (.tmp 23), (.tmp 24)], (some 25), none, [0, 1, 2], none⟩,
  ⟨.mov (.tmp 25), (some 21), none, [3], none⟩,
  ⟨.extract 0 (.tmp 21), (some 26), none, [4], none⟩,
  ⟨.extract 1 (.tmp 21), (some 27), none, [4], none⟩,
  ⟨.mov (.tmp 26), (some 7), none, [5, 3, 0, 1, 2, 3, 4, 5], none⟩,
  ⟨.mov (.tmp 27), (some 8), none, [6, 7, 0, 1, 2, 3, 4, 5, 6, 7], none⟩]
def d5r6 : List RO := [
  ⟨.load 4 true (.tmp 3), (some 29), none, [], none⟩,
  ⟨.load 3 true (.tmp 4), (some 30), none, [], none⟩,
  ⟨.load 3 true (.tmp 5), (some 31), none, [], none⟩,
  ⟨.call 18 [(.tmp 29), (.tmp 30), (.tmp 31)], (some 32), none, [0, 1, 2], none⟩,
  ⟨.mov (.tmp 32), (some 28), none, [3], none⟩,
  ⟨.extract 0 (.tmp 28), (some 33), none, [4], none⟩,
  ⟨.extract 1 (.tmp 28), (some 34), none, [4], none⟩,
  ⟨.mov (.tmp 33), (some 9), none, [5, 3, 0, 1, 2, 3, 4, 5], none⟩,
  ⟨.mov (.tmp 34), (some 10), none, [6, 7, 0, 1, 2, 3, 4, 5, 6, 7], none⟩]
def d5r7 : List RO := [
  ⟨.load 4 true (.tmp 3), (some 36), none, [], none⟩,
  ⟨.load 3 true (.tmp 4), (some 37), none, [], none⟩,
  ⟨.addOff 1 (.tmp 5), (some 38), none, [], none⟩,
  ⟨.load 1 false (.tmp 38), (some 39), none, [2], none⟩,
  ⟨.call 16 [(.tmp 36), (.tmp 37), (.tmp 39)], (some 40), none, [0, 1, 3], none⟩,
  ⟨.mov (.tmp 40), (some 35), none, [4], none⟩,
  ⟨.extract 0 (.tmp 35), (some 41), none, [5], none⟩,
  ⟨.extract 1 (.tmp 35), (some 42), none, [5], none⟩,
  ⟨.alloc [(.v (.int .i64 0)), (.v (.int .i64 0)), (.v (.int .i64 0))], (some 11), none, [], none⟩,
  ⟨.store 3 (.tmp 11) (.tmp 41), none, none, [8, 6, 4, 0, 1, 2, 3, 4, 5, 6, 8], none⟩,
  ⟨.mov (.tmp 42), (some 12), none, [7, 9, 0, 1, 2, 3, 4, 5, 6, 7, 8, 9], none⟩]
def d5r8 : List RO := [
  ⟨.load 4 true (.tmp 3), (some 44), none, [], none⟩,
  ⟨.load 3 true (.tmp 4), (some 45), none, [], none⟩,
  ⟨.addOff 1 (.tmp 5), (some 46), none, [], none⟩,
  ⟨.load 1 false (.tmp 46), (some 47), none, [2], none⟩,
  ⟨.call 19 [(.tmp 44), (.tmp 45), (.tmp 47)], (some 48), none, [0, 1, 3], none⟩,
  ⟨.mov (.tmp 48), (some 43), none, [4], none⟩,
  ⟨.extract 0 (.tmp 43), (some 49), none, [5], none⟩,
  ⟨.extract 1 (.tmp 43), (some 50), none, [5], none⟩,
  ⟨.alloc [(.v (.int .i64 0)), (.v (.int .i64 0)), (.v (.int .i64 0))], (some 13), none, [], none⟩,
  ⟨.store 3 (.tmp 13) (.tmp 49), none, none, [8, 6, 4, 0, 1, 2, 3, 4, 5, 6, 8], none⟩,
  ⟨.mov (.tmp 50), (some 14), none, [7, 9, 0, 1, 2, 3, 4, 5, 6, 7, 8, 9], none⟩]
def d5r9 : List RO := [
  ⟨.mov (.tmp 7), (some 51), none, [], none⟩,
  ⟨.mov (.tmp 9), (some 52), none, [], none⟩,
  ⟨.bin .eql (.tmp 51) (.tmp 52), (some 53), none, [0, 1], none⟩,
  ⟨.mov (.tmp 53), (some 54), none, [2], none⟩,
  ⟨.mov (.tmp 8), (some 55), (some (54, true)), [3], none⟩,
  ⟨.mov (.tmp 10), (some 56), (some (54, true)), [3], none⟩,
  ⟨.eqT false false [.bool] (.tmp 55) (.tmp 56), (some 57), (some (54, true)), [4, 5, 3], none⟩,
  ⟨.pick (.tmp 54) (.tmp 57) (.con (.v (.bool false))), (some 58), none, [3, 6], none⟩,
  ⟨.mov (.tmp 58), (some 59), none, [7, 3], none⟩,
  ⟨.load 3 true (.tmp 11), (some 60), (some (59, true)), [8], none⟩,
  ⟨.load 3 true (.tmp 13), (some 61), (some (59, true)), [8], none⟩,
  ⟨.eqT false true [(.int .i64), (.int .i64), (.int .i64)] (.tmp 60) (.tmp 61), (some 62), (some (59, true)), [9, 10, 8], none⟩,
  ⟨.pick (.tmp 59) (.tmp 62) (.con (.v (.bool false))), (some 63), none, [8, 11], none⟩,
  ⟨.mov (.tmp 63), (some 64), none, [12, 8], none⟩,
  ⟨.mov (.tmp 12), (some 65), (some (64, true)), [13], none⟩,
  ⟨.mov (.tmp 14), (some 66), (some (64, true)), [13], none⟩,
  ⟨.eqT false false [.bool] (.tmp 65) (.tmp 66), (some 67), (some (64, true)), [14, 15, 13], none⟩,
  ⟨.pick (.tmp 64) (.tmp 67) (.con (.v (.bool false))), (some 68), none, [13, 16], none⟩,
  ⟨.mov (.tmp 68), (some 6), none, [17, 13, 0, 1, 2, 3, 4, 5, 6, 7, 8, 9, 10, 11, 12, 13, 14, 15, 16, 17], none⟩]
def d5 : DC := (.seq (.region false d5r0)
  (.seq (.seq (.region false d5r1)
  (.cond (.tmp 16) (.seq (.region false d5r2)
  .ret)
  .skip))
  (.seq (.seq (.region false d5r3)
  (.cond (.tmp 20) (.seq (.region false d5r4)
  .ret)
  .skip))
  (.seq (.region false d5r5)
  (.seq (.region false d5r6)
  (.seq (.region false d5r7)
  (.seq (.region false d5r8)
  (.seq (.region false d5r9)
  .ret))))))))
def d5res : List DRes := [.slot 6]
theorem c5 : CodeOf Try.prog 5 69 d5 d5res := ⟨Try.f5, by kernel_rfl, by kernel_rfl, by kernel_rfl, by kernel_rfl, by kernel_rfl⟩

theorem follows : Try.prog.follows .mixedOrders = true := by kernel_rfl

end Go.Proofs
