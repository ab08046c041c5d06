import Derived.Test.YtecgedikabjcdaaProg
import Derived.KernelRfl
import Derived.Test.YtecgedikabjcdaaXac
set_option maxRecDepth 100000
set_option linter.unusedVariables false

namespace Go.Proofs
open Go.DM

instance seatLaid : Laid := ⟨[]⟩

-- emendate/items.of
def d32r0 : List RO := [
  ⟨.box (.tmp 0), (some 2), none, [], none⟩,
  ⟨.box (.tmp 1), (some 3), none, [], none⟩,
  ⟨.alloc [(.v (.int .i64 0)), (.v (.int .i64 0))], (some 4), none, [], none⟩]
def d32r1 : List RO := [
  ⟨.addOff 1 (.tmp 2), (some 5), none, [], none⟩,
  ⟨.load 1 false (.tmp 5), (some 6), none, [0], none⟩,
  ⟨.addOff 0 (.tmp 3), (some 7), none, [], none⟩,
  ⟨.load 1 false (.tmp 7), (some 8), none, [2], none⟩,
  ⟨.build [(.v (.int .i64 0)), (.v (.int .i64 0))] [(0, 1, (.tmp 6)), (1, 1, (.tmp 8))], (some 9), none, [1, 3], none⟩,
  ⟨.store 2 (.tmp 4) (.tmp 9), none, none, [4, 0, 1, 2, 3, 4], none⟩]
def d32 : DC := (.seq (.region false d32r0)
  (.seq (.region false d32r1)
  .ret))
def d32res : List DRes := [.cell 4 2 true]
theorem c32 [Laid] : CodeOf Try.prog 32 10 d32 d32res := ⟨Try.f32, by kernel_rfl, by kernel_rfl, by kernel_rfl, by kernel_rfl, by kernel_rfl⟩
-- (emendate/items.space).goal
def d33r0 : List RO := [
  ⟨.box (.tmp 0), (some 1), none, [], none⟩,
  ⟨.mov (.con (.v (.int .i64 0))), (some 2), none, [], none⟩]
def d33r1 : List RO := [
  ⟨.addOff 0 (.tmp 1), (some 3), none, [], none⟩,
  ⟨.load 1 false (.tmp 3), (some 4), none, [0], none⟩,
  ⟨.addOff 1 (.tmp 1), (some 5), none, [], none⟩,
  ⟨.load 1 false (.tmp 5), (some 6), none, [2], none⟩,
  ⟨.bin .mul (.tmp 4) (.tmp 6), (some 7), none, [1, 3], none⟩,
  ⟨.addOff 1 (.tmp 1), (some 8), none, [], none⟩,
  ⟨.load 1 false (.tmp 8), (some 9), none, [5], none⟩,
  ⟨.bin .add (.tmp 9) (.con (.v (.int .i64 1))), (some 10), none, [6], none⟩,
  ⟨.bin .mul (.tmp 7) (.tmp 10), (some 11), none, [4, 7], none⟩,
  ⟨.bin .quo (.tmp 11) (.con (.v (.int .i64 2))), (some 12), none, [8], none⟩,
  ⟨.mov (.tmp 12), (some 2), none, [9, 0, 1, 2, 3, 4, 5, 6, 7, 8, 9], none⟩]
def d33 : DC := (.seq (.region false d33r0)
  (.seq (.region false d33r1)
  .ret))
def d33res : List DRes := [.slot 2]
theorem c33 [Laid] : CodeOf Try.prog 33 13 d33 d33res := ⟨Try.f33, by kernel_rfl, by kernel_rfl, by kernel_rfl, by kernel_rfl, by kernel_rfl⟩
-- (emendate/items.space).index
def d37r0 : List RO := [
  ⟨.box (.tmp 0), (some 4), none, [], none⟩,
  ⟨.mov (.con (.v (.int .i64 0))), (some 8), none, [], none⟩]
def d37r1 : List RO := [
  ⟨.mov (.tmp 2), (some 10), none, [], none⟩,
  ⟨.addOff 1 (.tmp 4), (some 11), none, [], none⟩,
  ⟨.load 1 false (.tmp 11), (some 12), none, [1], none⟩,
  ⟨.bin .mul (.tmp 10) (.tmp 12), (some 13), none, [0, 2], none⟩,
  ⟨.mov (.tmp 2), (some 14), none, [], none⟩,
  ⟨.mov (.tmp 2), (some 15), none, [], none⟩,
  ⟨.bin .sub (.tmp 15) (.con (.v (.int .i64 1))), (some 16), none, [5], none⟩,
  ⟨.bin .mul (.tmp 14) (.tmp 16), (some 17), none, [4, 6], none⟩,
  ⟨.bin .quo (.tmp 17) (.con (.v (.int .i64 2))), (some 18), none, [7], none⟩,
  ⟨.bin .sub (.tmp 13) (.tmp 18), (some 19), none, [3, 8], none⟩,
  ⟨.mov (.tmp 19), (some 9), none, [9, 0, 1, 2, 3, 4, 5, 6, 7, 8, 9], none⟩]
def d37r2 : List RO := [
  ⟨.mov (.tmp 9), (some 20), none, [], none⟩,
  ⟨.mov (.tmp 3), (some 21), none, [], none⟩,
  ⟨.bin .add (.tmp 20) (.tmp 21), (some 22), none, [0, 1], none⟩,
  ⟨.mov (.tmp 2), (some 23), none, [], none⟩,
  ⟨.bin .sub (.tmp 22) (.tmp 23), (some 24), none, [2, 3], none⟩,
  ⟨.addOff 0 (.tmp 4), (some 25), none, [], none⟩,
  ⟨.load 1 false (.tmp 25), (some 26), none, [5], none⟩,
  ⟨.bin .mul (.tmp 24) (.tmp 26), (some 27), none, [4, 6], none⟩,
  ⟨.mov (.tmp 1), (some 28), none, [], none⟩,
  ⟨.bin .add (.tmp 27) (.tmp 28), (some 29), none, [7, 8], none⟩,
  ⟨.mov (.tmp 29), (some 8), none, [9, 0, 1, 2, 3, 4, 5, 6, 7, 8, 9], none⟩]
def d37 : DC := (.seq (.region false d37r0)
  (.seq (.region false d37r1)
  (.seq (.region false d37r2)
  .ret)))
def d37res : List DRes := [.slot 8]
theorem c37 [Laid] : CodeOf Try.prog 37 30 d37 d37res := ⟨Try.f37, by kernel_rfl, by kernel_rfl, by kernel_rfl, by kernel_rfl, by kernel_rfl⟩
-- emendate/items.Count
def d17r0 : List RO := [
  ⟨.box (.tmp 0), (some 2), none, [], none⟩,
  ⟨.box (.tmp 1), (some 3), none, [], none⟩,
  ⟨.mov (.con (.v (.int .i64 0))), (some 4), none, [], none⟩]
def d17r1 : List RO := [
  ⟨.load 4 true (.tmp 2), (some 5), none, [], none⟩,
  ⟨.load 3 true (.tmp 3), (some 6), none, [], none⟩,
  ⟨.call 32 [(.tmp 5), (.tmp 6)], (some 7), none, [0, 1], none⟩,
  ⟨.call 33 [(.tmp 7)], (some 8), none, [2, 2], none⟩,
  ⟨.bin .add (.tmp 8) (.con (.v (.int .i64 1))), (some 9), none, [3], none⟩,
  ⟨.mov (.tmp 9), (some 4), none, [4, 3, 0, 1, 2, 3, 4], none⟩]
def d17 : DC := (.seq (.region false d17r0)
  (.seq (.region false d17r1)
  .ret))
def d17res : List DRes := [.slot 4]
theorem c17 [Laid] : CodeOf Try.prog 17 10 d17 d17res := ⟨Try.f17, by kernel_rfl, by kernel_rfl, by kernel_rfl, by kernel_rfl, by kernel_rfl⟩
-- emendate/items.Index
def d15r0 : List RO := [
  ⟨.box (.tmp 0), (some 3), none, [], none⟩,
  ⟨.box (.tmp 1), (some 4), none, [], none⟩,
  ⟨.box (.tmp 2), (some 5), none, [], none⟩,
  ⟨.mov (.con (.v (.int .i64 0))), (some 6), none, [], none⟩,
  ⟨.mov (.con (.v (.bool false))), (some 7), none, [3], none⟩]
def d15r1 : List RO := [
  ⟨.addOff 0 (.tmp 5), (some 8), none, [], none⟩,
  ⟨.load 1 false (.tmp 8), (some 9), none, [0], none⟩,
  ⟨.bin .lss (.tmp 9) (.con (.v (.int .i64 0))), (some 10), none, [1], none⟩,
  ⟨.mov (.tmp 10), (some 11), none, [2], none⟩,
  ⟨.addOff 0 (.tmp 5), (some 12), (some (11, false)), [3], none⟩,
  ⟨.load 1 false (.tmp 12), (some 13), (some (11, false)), [4, 3], none⟩,
  ⟨.addOff 1 (.tmp 3), (some 14), (some (11, false)), [3], none⟩,
  ⟨.load 1 false (.tmp 14), (some 15), (some (11, false)), [6, 3], none⟩,
  ⟨.bin .geq (.tmp 13) (.tmp 15), (some 16), (some (11, false)), [5, 7, 3], none⟩,
  ⟨.pick (.tmp 11) (.con (.v (.bool true))) (.tmp 16), (some 17), none, [3, 8], none⟩,
  ⟨.mov (.tmp 17), (some 18), none, [9, 3], none⟩,
  ⟨.addOff 1 (.tmp 5), (some 19), (some (18, false)), [10], none⟩,
  ⟨.load 1 false (.tmp 19), (some 20), (some (18, false)), [11, 10], none⟩,
  ⟨.bin .lss (.tmp 20) (.con (.v (.int .i64 0))), (some 21), (some (18, false)), [12, 10], none⟩,
  ⟨.pick (.tmp 18) (.con (.v (.bool true))) (.tmp 21), (some 22), none, [10, 13], none⟩,
  ⟨.mov (.tmp 22), (some 23), none, [14, 10], none⟩,
  ⟨.addOff 2 (.tmp 5), (some 24), (some (23, false)), [15], none⟩,
  ⟨.load 1 false (.tmp 24), (some 25), (some (23, false)), [16, 15], none⟩,
  ⟨.addOff 1 (.tmp 5), (some 26), (some (23, false)), [15], none⟩,
  ⟨.load 1 false (.tmp 26), (some 27), (some (23, false)), [18, 15], none⟩,
  ⟨.bin .lss (.tmp 25) (.tmp 27), (some 28), (some (23, false)), [17, 19, 15], none⟩,
  ⟨.pick (.tmp 23) (.con (.v (.bool true))) (.tmp 28), (some 29), none, [15, 20], none⟩,
  ⟨.mov (.tmp 29), (some 30), none, [21, 15], none⟩,
  ⟨.addOff 2 (.tmp 5), (some 31), (some (30, false)), [22], none⟩,
  ⟨.load 1 false (.tmp 31), (some 32), (some (30, false)), [23, 22], none⟩,
  ⟨.addOff 0 (.tmp 4), (some 33), (some (30, false)), [22], none⟩,
  ⟨.load 1 false (.tmp 33), (some 34), (some (30, false)), [25, 22], none⟩,
  ⟨.bin .geq (.tmp 32) (.tmp 34), (some 35), (some (30, false)), [24, 26, 22], none⟩,
  ⟨.pick (.tmp 30) (.con (.v (.bool true))) (.tmp 35), (some 36), none, [22, 27], none⟩]
def d15r2 : List RO := [
  ⟨.mov (.con (.v (.int .i64 0))), (some 6), none, [], none⟩,
  ⟨.mov (.con (.v (.bool false))), (some 7), none, [0, 0], none⟩]
def d15r3 : List RO := [
  ⟨.load 4 true (.tmp 3), (some 37), none, [], none⟩,
  ⟨.load 3 true (.tmp 4), (some 38), none, [], none⟩,
  ⟨.call 32 [(.tmp 37), (.tmp 38)], (some 39), none, [0, 1], none⟩,
  ⟨.addOff 0 (.tmp 5), (some 40), none, [], none⟩,
  ⟨.load 1 false (.tmp 40), (some 41), none, [3], none⟩,
  ⟨.addOff 1 (.tmp 5), (some 42), none, [], none⟩,
  ⟨.load 1 false (.tmp 42), (some 43), none, [5], none⟩,
  ⟨.addOff 2 (.tmp 5), (some 44), none, [], none⟩,
  ⟨.load 1 false (.tmp 44), (some 45), none, [7], none⟩,
  ⟨.call 37 [(.tmp 39), (.tmp 41), (.tmp 43), (.tmp 45)], (some 46), none, [2, 4, 6, 8, 2], none⟩,
  ⟨.mov (.tmp 46), (some 6), none, [9, 9, 0, 1, 2, 3, 4, 5, 6, 7, 8, 9], none⟩,
  ⟨.mov (.con (.v (.bool true))), (some 7), none, [10, 0, 1, 2, 3, 4, 5, 6, 7, 8, 9, 10], none⟩]
def d15 : DC := (.seq (.region false d15r0)
  (.seq (.seq (.region false d15r1)
  (.cond (.tmp 36) (.seq (.region false d15r2)
  .ret)
  .skip))
  (.seq (.region true d15r3)
  .ret)))
def d15res : List DRes := [.slot 6, .slot 7]
theorem c15 [Laid] : CodeOf Try.prog 15 47 d15 d15res := ⟨Try.f15, by kernel_rfl, by kernel_rfl, by kernel_rfl, by kernel_rfl, by kernel_rfl⟩
-- emendate/emendateref39.Count
def d39r0 : List RO := [
  ⟨.box (.tmp 0), (some 2), none, [], none⟩,
  ⟨.box (.tmp 1), (some 3), none, [], none⟩,
  ⟨.mov (.con (.v (.int .i64 0))), (some 4), none, [], none⟩]
def d39r1 : List RO := [
  ⟨.addOff 0 (.tmp 3), (some 5), none, [], none⟩,
  ⟨.load 1 false (.tmp 5), (some 6), none, [0], none⟩,
  ⟨.addOff 0 (.tmp 3), (some 7), none, [], none⟩,
  ⟨.load 1 false (.tmp 7), (some 8), none, [2], none⟩,
  ⟨.bin .add (.tmp 8) (.con (.v (.int .i64 1))), (some 9), none, [3], none⟩,
  ⟨.bin .mul (.tmp 6) (.tmp 9), (some 10), none, [1, 4], none⟩,
  ⟨.bin .quo (.tmp 10) (.con (.v (.int .i64 2))), (some 11), none, [5], none⟩,
  ⟨.addOff 1 (.tmp 2), (some 12), none, [], none⟩,
  ⟨.load 1 false (.tmp 12), (some 13), none, [7], none⟩,
  ⟨.bin .mul (.tmp 11) (.tmp 13), (some 14), none, [6, 8], none⟩,
  ⟨.bin .add (.tmp 14) (.con (.v (.int .i64 1))), (some 15), none, [9], none⟩,
  ⟨.mov (.tmp 15), (some 4), none, [10, 0, 1, 2, 3, 4, 5, 6, 7, 8, 9, 10], none⟩]
def d39 : DC := (.seq (.region false d39r0)
  (.seq (.region false d39r1)
  .ret))
def d39res : List DRes := [.slot 4]
theorem c39 [Laid] : CodeOf Try.prog 39 16 d39 d39res := ⟨Try.f39, by kernel_rfl, by kernel_rfl, by kernel_rfl, by kernel_rfl, by kernel_rfl⟩
-- emendate/emendateref39.first
def d40r0 : List RO := [
  ⟨.box (.tmp 0), (some 4), none, [], none⟩,
  ⟨.box (.tmp 1), (some 5), none, [], none⟩,
  ⟨.mov (.con (.v (.int .i64 0))), (some 8), none, [], none⟩]
def d40r1 : List RO := [
  ⟨.mov (.con (.v (.int .i64 0))), (some 9), none, [], none⟩]
def d40r2 : List RO := [
  ⟨.mov (.con (.v (.int .i64 0))), (some 10), none, [], none⟩]
def d40r3 : List RO := [
  ⟨.mov (.tmp 10), (some 11), none, [], none⟩,
  ⟨.mov (.tmp 2), (some 12), none, [], none⟩,
  ⟨.bin .lss (.tmp 11) (.tmp 12), (some 13), none, [0, 1], none⟩]
def d40r4 : List RO := [
  ⟨.mov (.tmp 9), (some 16), none, [], none⟩,
  ⟨.addOff 0 (.tmp 5), (some 17), none, [], none⟩,
  ⟨.load 1 false (.tmp 17), (some 18), none, [1], none⟩,
  ⟨.bin .add (.tmp 16) (.tmp 18), (some 19), none, [0, 2], none⟩,
  ⟨.mov (.tmp 10), (some 20), none, [], none⟩,
  ⟨.bin .sub (.tmp 19) (.tmp 20), (some 21), none, [3, 4], none⟩,
  ⟨.mov (.tmp 21), (some 9), none, [5, 0, 1, 2, 3, 4, 5], none⟩]
def d40r5 : List RO := [
  ⟨.mov (.tmp 10), (some 14), none, [], none⟩,
  ⟨.bin .add (.tmp 14) (.con (.v (.int .i64 1))), (some 15), none, [0], none⟩,
  ⟨.mov (.tmp 15), (some 10), none, [1, 0, 1], none⟩]
def d40r6 : List RO := [
  ⟨.mov (.tmp 9), (some 22), none, [], none⟩,
  ⟨.mov (.tmp 3), (some 23), none, [], none⟩,
  ⟨.bin .add (.tmp 22) (.tmp 23), (some 24), none, [0, 1], none⟩,
  ⟨.mov (.tmp 2), (some 25), none, [], none⟩,
  ⟨.bin .sub (.tmp 24) (.tmp 25), (some 26), none, [2, 3], none⟩,
  ⟨.addOff 1 (.tmp 4), (some 27), none, [], none⟩,
  ⟨.load 1 false (.tmp 27), (some 28), none, [5], none⟩,
  ⟨.bin .mul (.tmp 26) (.tmp 28), (some 29), none, [4, 6], none⟩,
  ⟨.mov (.tmp 29), (some 8), none, [7, 0, 1, 2, 3, 4, 5, 6, 7], none⟩]
def d40 : DC := (.seq (.region false d40r0)
  (.seq (.region false d40r1)
  (.seq (.seq (.region false d40r2)
  (.block 0 (.loop (.seq (.seq (.region false d40r3)
  (.cond (.tmp 13) .skip
  (.exit 0)))
  (.seq (.block 1 (.region false d40r4))
  (.region false d40r5))))))
  (.seq (.region false d40r6)
  .ret))))
def d40res : List DRes := [.slot 8]
theorem c40 [Laid] : CodeOf Try.prog 40 30 d40 d40res := ⟨Try.f40, by kernel_rfl, by kernel_rfl, by kernel_rfl, by kernel_rfl, by kernel_rfl⟩
-- emendate/emendateref39.Index
def d18r0 : List RO := [
  ⟨.box (.tmp 0), (some 3), none, [], none⟩,
  ⟨.box (.tmp 1), (some 4), none, [], none⟩,
  ⟨.box (.tmp 2), (some 5), none, [], none⟩,
  ⟨.mov (.con (.v (.int .i64 0))), (some 6), none, [], none⟩,
  ⟨.mov (.con (.v (.bool false))), (some 7), none, [3], none⟩]
def d18r1 : List RO := [
  ⟨.addOff 0 (.tmp 5), (some 8), none, [], none⟩,
  ⟨.load 1 false (.tmp 8), (some 9), none, [0], none⟩,
  ⟨.bin .lss (.tmp 9) (.con (.v (.int .i64 0))), (some 10), none, [1], none⟩,
  ⟨.mov (.tmp 10), (some 11), none, [2], none⟩,
  ⟨.addOff 0 (.tmp 5), (some 12), (some (11, false)), [3], none⟩,
  ⟨.load 1 false (.tmp 12), (some 13), (some (11, false)), [4, 3], none⟩,
  ⟨.addOff 1 (.tmp 3), (some 14), (some (11, false)), [3], none⟩,
  ⟨.load 1 false (.tmp 14), (some 15), (some (11, false)), [6, 3], none⟩,
  ⟨.bin .geq (.tmp 13) (.tmp 15), (some 16), (some (11, false)), [5, 7, 3], none⟩,
  ⟨.pick (.tmp 11) (.con (.v (.bool true))) (.tmp 16), (some 17), none, [3, 8], none⟩,
  ⟨.mov (.tmp 17), (some 18), none, [9, 3], none⟩,
  ⟨.addOff 1 (.tmp 5), (some 19), (some (18, false)), [10], none⟩,
  ⟨.load 1 false (.tmp 19), (some 20), (some (18, false)), [11, 10], none⟩,
  ⟨.bin .lss (.tmp 20) (.con (.v (.int .i64 0))), (some 21), (some (18, false)), [12, 10], none⟩,
  ⟨.pick (.tmp 18) (.con (.v (.bool true))) (.tmp 21), (some 22), none, [10, 13], none⟩,
  ⟨.mov (.tmp 22), (some 23), none, [14, 10], none⟩,
  ⟨.addOff 2 (.tmp 5), (some 24), (some (23, false)), [15], none⟩,
  ⟨.load 1 false (.tmp 24), (some 25), (some (23, false)), [16, 15], none⟩,
  ⟨.addOff 1 (.tmp 5), (some 26), (some (23, false)), [15], none⟩,
  ⟨.load 1 false (.tmp 26), (some 27), (some (23, false)), [18, 15], none⟩,
  ⟨.bin .lss (.tmp 25) (.tmp 27), (some 28), (some (23, false)), [17, 19, 15], none⟩,
  ⟨.pick (.tmp 23) (.con (.v (.bool true))) (.tmp 28), (some 29), none, [15, 20], none⟩,
  ⟨.mov (.tmp 29), (some 30), none, [21, 15], none⟩,
  ⟨.addOff 2 (.tmp 5), (some 31), (some (30, false)), [22], none⟩,
  ⟨.load 1 false (.tmp 31), (some 32), (some (30, false)), [23, 22], none⟩,
  ⟨.addOff 0 (.tmp 4), (some 33), (some (30, false)), [22], none⟩,
  ⟨.load 1 false (.tmp 33), (some 34), (some (30, false)), [25, 22], none⟩,
  ⟨.bin .geq (.tmp 32) (.tmp 34), (some 35), (some (30, false)), [24, 26, 22], none⟩,
  ⟨.pick (.tmp 30) (.con (.v (.bool true))) (.tmp 35), (some 36), none, [22, 27], none⟩]
def d18r2 : List RO := [
  ⟨.mov (.con (.v (.int .i64 0))), (some 6), none, [], none⟩,
  ⟨.mov (.con (.v (.bool false))), (some 7), none, [0, 0], none⟩]
def d18r3 : List RO := [
  ⟨.load 4 true (.tmp 3), (some 37), none, [], none⟩,
  ⟨.load 3 true (.tmp 4), (some 38), none, [], none⟩,
  ⟨.addOff 1 (.tmp 5), (some 39), none, [], none⟩,
  ⟨.load 1 false (.tmp 39), (some 40), none, [2], none⟩,
  ⟨.addOff 2 (.tmp 5), (some 41), none, [], none⟩,
  ⟨.load 1 false (.tmp 41), (some 42), none, [4], none⟩,
  ⟨.call 40 [(.tmp 37), (.tmp 38), (.tmp 40), (.tmp 42)], (some 43), none, [0, 1, 3, 5], none⟩,
  ⟨.addOff 0 (.tmp 5), (some 44), none, [], none⟩,
  ⟨.load 1 false (.tmp 44), (some 45), none, [7], none⟩,
  ⟨.bin .add (.tmp 43) (.tmp 45), (some 46), none, [6, 8], none⟩,
  ⟨.mov (.tmp 46), (some 6), none, [9, 6, 0, 1, 2, 3, 4, 5, 6, 7, 8, 9], none⟩,
  ⟨.mov (.con (.v (.bool true))), (some 7), none, [10, 0, 1, 2, 3, 4, 5, 6, 7, 8, 9, 10], none⟩]
def d18 : DC := (.seq (.region false d18r0)
  (.seq (.seq (.region false d18r1)
  (.cond (.tmp 36) (.seq (.region false d18r2)
  .ret)
  .skip))
  (.seq (.region true d18r3)
  .ret)))
def d18res : List DRes := [.slot 6, .slot 7]
theorem c18 [Laid] : CodeOf Try.prog 18 47 d18 d18res := ⟨Try.f18, by kernel_rfl, by kernel_rfl, by kernel_rfl, by kernel_rfl, by kernel_rfl⟩
-- emendate/items.At
def d16r0 : List RO := [
  ⟨.box (.tmp 0), (some 3), none, [], none⟩,
  ⟨.box (.tmp 1), (some 4), none, [], none⟩,
  ⟨.alloc [(.v (.int .i64 0)), (.v (.int .i64 0)), (.v (.int .i64 0))], (some 6), none, [], none⟩,
  ⟨.mov (.con (.v (.bool false))), (some 7), none, [], none⟩]
def d16r1 : List RO := [
  ⟨.mov (.tmp 2), (some 10), none, [], none⟩,
  ⟨.bin .lss (.tmp 10) (.con (.v (.int .i64 0))), (some 11), none, [0], none⟩,
  ⟨.mov (.tmp 11), (some 12), none, [1], none⟩,
  ⟨.mov (.tmp 2), (some 13), (some (12, false)), [2], none⟩,
  ⟨.load 4 true (.tmp 3), (some 14), (some (12, false)), [2], none⟩,
  ⟨.load 3 true (.tmp 4), (some 15), (some (12, false)), [2], none⟩,
  ⟨.call 32 [(.tmp 14), (.tmp 15)], (some 16), (some (12, false)), [4, 5, 2, 2], none⟩,
  ⟨.call 33 [(.tmp 16)], (some 17), (some (12, false)), [6, 6, 2], none⟩,
  ⟨.bin .geq (.tmp 13) (.tmp 17), (some 18), (some (12, false)), [3, 7, 2], none⟩,
  ⟨.pick (.tmp 12) (.con (.v (.bool true))) (.tmp 18), (some 19), none, [2, 8], none⟩]
def d16r2 : List RO := [
  ⟨.build [(.v (.int .i64 0)), (.v (.int .i64 0)), (.v (.int .i64 0))] [], (some 20), none, [], none⟩,
  ⟨.store 3 (.tmp 6) (.tmp 20), none, none, [0, 0], none⟩,
  ⟨.mov (.con (.v (.bool false))), (some 7), none, [1, 0, 1], none⟩]
def d16r3 : List RO := [
  ⟨.mov (.tmp 2), (some 21), none, [], none⟩,
  ⟨.addOff 1 (.tmp 3), (some 22), none, [], none⟩,
  ⟨.load 1 false (.tmp 22), (some 23), none, [1], none⟩,
  ⟨.bin .quo (.tmp 21) (.tmp 23), (some 24), none, [0, 2], none⟩,
  ⟨.mov (.tmp 24), (some 8), none, [3, 0, 1, 2, 3], none⟩]
def d16r4 : List RO := [
  ⟨.mov (.con (.v (.int .i64 0))), (some 9), none, [], none⟩]
def d16r5 : List RO := [
  ⟨.mov (.tmp 8), (some 25), none, [], none⟩,
  ⟨.addOff 0 (.tmp 4), (some 26), none, [], none⟩,
  ⟨.load 1 false (.tmp 26), (some 27), none, [1], none⟩,
  ⟨.mov (.tmp 9), (some 28), none, [], none⟩,
  ⟨.bin .sub (.tmp 27) (.tmp 28), (some 29), none, [2, 3], none⟩,
  ⟨.bin .geq (.tmp 25) (.tmp 29), (some 30), none, [0, 4], none⟩]
def d16r6 : List RO := [
  ⟨.mov (.tmp 8), (some 31), none, [], none⟩,
  ⟨.addOff 0 (.tmp 4), (some 32), none, [], none⟩,
  ⟨.load 1 false (.tmp 32), (some 33), none, [1], none⟩,
  ⟨.mov (.tmp 9), (some 34), none, [], none⟩,
  ⟨.bin .sub (.tmp 33) (.tmp 34), (some 35), none, [2, 3], none⟩,
  ⟨.bin .sub (.tmp 31) (.tmp 35), (some 36), none, [0, 4], none⟩,
  ⟨.mov (.tmp 36), (some 8), none, [5, 0, 1, 2, 3, 4, 5], none⟩]
def d16r7 : List RO := [
  ⟨.mov (.tmp 9), (some 37), none, [], none⟩,
  ⟨.bin .add (.tmp 37) (.con (.v (.int .i64 1))), (some 38), none, [0], none⟩,
  ⟨.mov (.tmp 38), (some 9), none, [1, 0, 1], none⟩]
def d16r8 : List RO := [
  ⟨.mov (.tmp 2), (some 39), none, [], none⟩,
  ⟨.addOff 1 (.tmp 3), (some 40), none, [], none⟩,
  ⟨.load 1 false (.tmp 40), (some 41), none, [1], none⟩,
  ⟨.bin .rem (.tmp 39) (.tmp 41), (some 42), none, [0, 2], none⟩,
  ⟨.mov (.tmp 9), (some 43), none, [], none⟩,
  ⟨.mov (.tmp 9), (some 44), none, [], none⟩,
  ⟨.mov (.tmp 8), (some 45), none, [], none⟩,
  ⟨.bin .add (.tmp 44) (.tmp 45), (some 46), none, [5, 6], none⟩,
  ⟨.build [(.v (.int .i64 0)), (.v (.int .i64 0)), (.v (.int .i64 0))] [(0, 1, (.tmp 42)), (1, 1, (.tmp 43)), (2, 1, (.tmp 46))], (some 47), none, [3, 4, 7], none⟩,
  ⟨.store 3 (.tmp 6) (.tmp 47), none, none, [8, 0, 1, 2, 3, 4, 5, 6, 7, 8], none⟩,
  ⟨.mov (.con (.v (.bool true))), (some 7), none, [9, 0, 1, 2, 3, 4, 5, 6, 7, 8, 9], none⟩]
def d16 : DC := (.seq (.region false d16r0)
  (.seq (.seq (.region false d16r1)
  (.cond (.tmp 19) (.seq (.region false d16r2)
  .ret)
  .skip))
  (.seq (.region false d16r3)
  (.seq (.region false d16r4)
  (.seq (.block 0 (.loop (.seq (.seq (.region false d16r5)
  (.cond (.tmp 30) .skip
  (.exit 0)))
  (.block 1 (.seq (.region false d16r6)
  (.region false d16r7))))))
  (.seq (.region false d16r8)
  .ret))))))
def d16res : List DRes := [.cell 6 3 true, .slot 7]
theorem c16 [Laid] : CodeOf Try.prog 16 48 d16 d16res := ⟨Try.f16, by kernel_rfl, by kernel_rfl, by kernel_rfl, by kernel_rfl, by kernel_rfl⟩
-- emendate/emendateref39.At
-- emendate/emendateref39.SameEdges
def d13r0 : List RO := [
  ⟨.mov (.con (.v (.bool false))), (some 4), none, [], none⟩]
def d13r1 : List RO := [
  ⟨.mov (.tmp 0), (some 7), none, [], none⟩,
  ⟨.len (.tmp 7), (some 8), none, [0], none⟩,
  ⟨.mov (.tmp 1), (some 9), none, [], none⟩,
  ⟨.len (.tmp 9), (some 10), none, [2], none⟩,
  ⟨.bin .neq (.tmp 8) (.tmp 10), (some 11), none, [1, 3], none⟩]
def d13r2 : List RO := [
  ⟨.mov (.con (.v (.bool false))), (some 4), none, [], none⟩]
def d13r3 : List RO := [
  ⟨.mov (.con (.v (.int .i64 0))), (some 5), none, [], none⟩]
def d13r4 : List RO := [
  ⟨.mov (.tmp 5), (some 12), none, [], none⟩,
  ⟨.mov (.tmp 0), (some 13), none, [], none⟩,
  ⟨.len (.tmp 13), (some 14), none, [1], none⟩,
  ⟨.bin .lss (.tmp 12) (.tmp 14), (some 15), none, [0, 2], none⟩]
def d13r5 : List RO := [
  ⟨.mov (.tmp 0), (some 18), none, [], none⟩,
  ⟨.mov (.tmp 5), (some 19), none, [], none⟩,
  ⟨.idxAddr 5 (.tmp 18) (.tmp 19), (some 20), none, [0, 1], none⟩,
  ⟨.addOff 0 (.tmp 20), (some 21), none, [2], none⟩,
  ⟨.load 1 false (.tmp 21), (some 22), none, [3], none⟩,
  ⟨.mov (.tmp 1), (some 23), none, [], none⟩,
  ⟨.mov (.tmp 5), (some 24), none, [], none⟩,
  ⟨.idxAddr 5 (.tmp 23) (.tmp 24), (some 25), none, [5, 6], none⟩,
  ⟨.addOff 0 (.tmp 25), (some 26), none, [7], none⟩,
  ⟨.load 1 false (.tmp 26), (some 27), none, [8], none⟩,
  ⟨.bin .neq (.tmp 22) (.tmp 27), (some 28), none, [4, 9], none⟩,
  ⟨.mov (.tmp 28), (some 29), none, [10], none⟩,
  ⟨.mov (.tmp 0), (some 30), (some (29, false)), [11], none⟩,
  ⟨.mov (.tmp 5), (some 31), (some (29, false)), [11], none⟩,
  ⟨.idxAddr 5 (.tmp 30) (.tmp 31), (some 32), (some (29, false)), [12, 13, 11], none⟩,
  ⟨.addOff 2 (.tmp 32), (some 33), (some (29, false)), [14, 11], none⟩,
  ⟨.load 1 false (.tmp 33), (some 34), (some (29, false)), [15, 11], none⟩,
  ⟨.mov (.tmp 1), (some 35), (some (29, false)), [11], none⟩,
  ⟨.mov (.tmp 5), (some 36), (some (29, false)), [11], none⟩,
  ⟨.idxAddr 5 (.tmp 35) (.tmp 36), (some 37), (some (29, false)), [17, 18, 11], none⟩,
  ⟨.addOff 2 (.tmp 37), (some 38), (some (29, false)), [19, 11], none⟩,
  ⟨.load 1 false (.tmp 38), (some 39), (some (29, false)), [20, 11], none⟩,
  ⟨.bin .neq (.tmp 34) (.tmp 39), (some 40), (some (29, false)), [16, 21, 11], none⟩,
  ⟨.pick (.tmp 29) (.con (.v (.bool true))) (.tmp 40), (some 41), none, [11, 22], none⟩,
  ⟨.mov (.tmp 41), (some 42), none, [23, 11], none⟩,
  ⟨.mov (.tmp 0), (some 43), (some (42, false)), [24], none⟩,
  ⟨.mov (.tmp 5), (some 44), (some (42, false)), [24], none⟩,
  ⟨.idxAddr 5 (.tmp 43) (.tmp 44), (some 45), (some (42, false)), [25, 26, 24], none⟩,
  ⟨.addOff 3 (.tmp 45), (some 46), (some (42, false)), [27, 24], none⟩,
  ⟨.load 2 true (.tmp 46), (some 47), (some (42, false)), [28, 24], none⟩,
  ⟨.mov (.tmp 1), (some 48), (some (42, false)), [24], none⟩,
  ⟨.mov (.tmp 5), (some 49), (some (42, false)), [24], none⟩,
  ⟨.idxAddr 5 (.tmp 48) (.tmp 49), (some 50), (some (42, false)), [30, 31, 24], none⟩,
  ⟨.addOff 3 (.tmp 50), (some 51), (some (42, false)), [32, 24], none⟩,
  ⟨.load 2 true (.tmp 51), (some 52), (some (42, false)), [33, 24], none⟩,
  ⟨.eqT true true [(.int .i64), (.int .i64)] (.tmp 47) (.tmp 52), (some 53), (some (42, false)), [29, 34, 24], none⟩,
  ⟨.pick (.tmp 42) (.con (.v (.bool true))) (.tmp 53), (some 54), none, [24, 35], none⟩,
  ⟨.mov (.tmp 54), (some 55), none, [36, 24], none⟩,
  ⟨.mov (.tmp 0), (some 56), (some (55, false)), [37], none⟩,
  ⟨.mov (.tmp 5), (some 57), (some (55, false)), [37], none⟩,
  ⟨.idxAddr 5 (.tmp 56) (.tmp 57), (some 58), (some (55, false)), [38, 39, 37], none⟩,
  ⟨.addOff 1 (.tmp 58), (some 59), (some (55, false)), [40, 37], none⟩,
  ⟨.load 1 false (.tmp 59), (some 60), (some (55, false)), [41, 37], none⟩,
  ⟨.len (.tmp 60), (some 61), (some (55, false)), [42, 37], none⟩,
  ⟨.mov (.tmp 1), (some 62), (some (55, false)), [37], none⟩,
  ⟨.mov (.tmp 5), (some 63), (some (55, false)), [37], none⟩,
  ⟨.idxAddr 5 (.tmp 62) (.tmp 63), (some 64), (some (55, false)), [44, 45, 37], none⟩,
  ⟨.addOff 1 (.tmp 64), (some 65), (some (55, false)), [46, 37], none⟩,
  ⟨.load 1 false (.tmp 65), (some 66), (some (55, false)), [47, 37], none⟩,
  ⟨.len (.tmp 66), (some 67), (some (55, false)), [48, 37], none⟩,
  ⟨.bin .neq (.tmp 61) (.tmp 67), (some 68), (some (55, false)), [43, 49, 37], none⟩,
  ⟨.pick (.tmp 55) (.con (.v (.bool true))) (.tmp 68), (some 69), none, [37, 50], none⟩]
def d13r6 : List RO := [
  ⟨.mov (.con (.v (.bool false))), (some 4), none, [], none⟩]
def d13r7 : List RO := [
  ⟨.mov (.con (.v (.int .i64 0))), (some 6), none, [], none⟩]
def d13r8 : List RO := [
  ⟨.mov (.tmp 6), (some 70), none, [], none⟩,
  ⟨.mov (.tmp 0), (some 71), none, [], none⟩,
  ⟨.mov (.tmp 5), (some 72), none, [], none⟩,
  ⟨.idxAddr 5 (.tmp 71) (.tmp 72), (some 73), none, [1, 2], none⟩,
  ⟨.addOff 1 (.tmp 73), (some 74), none, [3], none⟩,
  ⟨.load 1 false (.tmp 74), (some 75), none, [4], none⟩,
  ⟨.len (.tmp 75), (some 76), none, [5], none⟩,
  ⟨.bin .lss (.tmp 70) (.tmp 76), (some 77), none, [0, 6], none⟩]
def d13r9 : List RO := [
  ⟨.mov (.tmp 0), (some 80), none, [], none⟩,
  ⟨.mov (.tmp 5), (some 81), none, [], none⟩,
  ⟨.idxAddr 5 (.tmp 80) (.tmp 81), (some 82), none, [0, 1], none⟩,
  ⟨.addOff 1 (.tmp 82), (some 83), none, [2], none⟩,
  ⟨.load 1 false (.tmp 83), (some 84), none, [3], none⟩,
  ⟨.mov (.tmp 6), (some 85), none, [], none⟩,
  ⟨.idxAddr 1 (.tmp 84) (.tmp 85), (some 86), none, [4, 5], none⟩,
  ⟨.load 1 false (.tmp 86), (some 87), none, [6], none⟩,
  ⟨.mov (.tmp 1), (some 88), none, [], none⟩,
  ⟨.mov (.tmp 5), (some 89), none, [], none⟩,
  ⟨.idxAddr 5 (.tmp 88) (.tmp 89), (some 90), none, [8, 9], none⟩,
  ⟨.addOff 1 (.tmp 90), (some 91), none, [10], none⟩,
  ⟨.load 1 false (.tmp 91), (some 92), none, [11], none⟩,
  ⟨.mov (.tmp 6), (some 93), none, [], none⟩,
  ⟨.idxAddr 1 (.tmp 92) (.tmp 93), (some 94), none, [12, 13], none⟩,
  ⟨.load 1 false (.tmp 94), (some 95), none, [14], none⟩,
  ⟨.bin .neq (.tmp 87) (.tmp 95), (some 96), none, [7, 15], none⟩]
def d13r10 : List RO := [
  ⟨.mov (.con (.v (.bool false))), (some 4), none, [], none⟩]
def d13r11 : List RO := [
  ⟨.mov (.tmp 6), (some 78), none, [], none⟩,
  ⟨.bin .add (.tmp 78) (.con (.v (.int .i64 1))), (some 79), none, [0], none⟩,
  ⟨.mov (.tmp 79), (some 6), none, [1, 0, 1], none⟩]
def d13r12 : List RO := [
  ⟨.mov (.tmp 5), (some 16), none, [], none⟩,
  ⟨.bin .add (.tmp 16) (.con (.v (.int .i64 1))), (some 17), none, [0], none⟩,
  ⟨.mov (.tmp 17), (some 5), none, [1, 0, 1], none⟩]
def d13r13 : List RO := [
  ⟨.mov (.con (.v (.bool true))), (some 4), none, [], none⟩]
def d13 : DC := (.seq (.region false d13r0)
  (.seq (.seq (.region false d13r1)
  (.cond (.tmp 11) (.seq (.region false d13r2)
  .ret)
  .skip))
  (.seq (.seq (.region false d13r3)
  (.block 0 (.loop (.seq (.seq (.region false d13r4)
  (.cond (.tmp 15) .skip
  (.exit 0)))
  (.seq (.block 1 (.seq (.seq (.region true d13r5)
  (.cond (.tmp 69) (.seq (.region false d13r6)
  .ret)
  .skip))
  (.seq (.region false d13r7)
  (.block 2 (.loop (.seq (.seq (.region false d13r8)
  (.cond (.tmp 77) .skip
  (.exit 2)))
  (.seq (.block 3 (.seq (.region true d13r9)
  (.cond (.tmp 96) (.seq (.region false d13r10)
  .ret)
  .skip)))
  (.region false d13r11))))))))
  (.region false d13r12))))))
  (.seq (.region false d13r13)
  .ret))))
def d13res : List DRes := [.slot 4]
theorem c13 [Laid] : CodeOf Try.prog 13 97 d13 d13res := ⟨Try.f13, by kernel_rfl, by kernel_rfl, by kernel_rfl, by kernel_rfl, by kernel_rfl⟩
-- emendate/emendateref24.Small
def d30r0 : List RO := [
  ⟨.box (.tmp 0), (some 1), none, [], none⟩,
  ⟨.mov (.con (.v (.bool false))), (some 2), none, [], none⟩]
def d30r1 : List RO := [
  ⟨.addOff 1 (.tmp 1), (some 3), none, [], none⟩,
  ⟨.load 1 false (.tmp 3), (some 4), none, [0], none⟩,
  ⟨.bin .leq (.tmp 4) (.con (.v (.int .i64 14))), (some 5), none, [1], none⟩,
  ⟨.mov (.tmp 5), (some 6), none, [2], none⟩,
  ⟨.addOff 3 (.tmp 1), (some 7), (some (6, true)), [3], none⟩,
  ⟨.load 1 false (.tmp 7), (some 8), (some (6, true)), [4, 3], none⟩,
  ⟨.len (.tmp 8), (some 9), (some (6, true)), [5, 3], none⟩,
  ⟨.bin .leq (.tmp 9) (.con (.v (.int .i64 24))), (some 10), (some (6, true)), [6, 3], none⟩,
  ⟨.pick (.tmp 6) (.tmp 10) (.con (.v (.bool false))), (some 11), none, [3, 7], none⟩,
  ⟨.mov (.tmp 11), (some 12), none, [8, 3], none⟩,
  ⟨.addOff 0 (.tmp 1), (some 13), (some (12, true)), [9], none⟩,
  ⟨.load 1 false (.tmp 13), (some 14), (some (12, true)), [10, 9], none⟩,
  ⟨.bin .leq (.tmp 14) (.con (.v (.int .i64 6))), (some 15), (some (12, true)), [11, 9], none⟩,
  ⟨.pick (.tmp 12) (.tmp 15) (.con (.v (.bool false))), (some 16), none, [9, 12], none⟩,
  ⟨.mov (.tmp 16), (some 17), none, [13, 9], none⟩,
  ⟨.load 4 true (.tmp 1), (some 18), (some (17, true)), [14], none⟩,
  ⟨.call 44 [(.tmp 18)], (some 19), (some (17, true)), [15, 14, 14], none⟩,
  ⟨.pick (.tmp 17) (.tmp 19) (.con (.v (.bool false))), (some 20), none, [14, 16], none⟩,
  ⟨.mov (.tmp 20), (some 2), none, [17, 16, 0, 1, 2, 3, 4, 5, 6, 7, 8, 9, 10, 11, 12, 13, 14, 15, 16, 17], none⟩]
def d30 : DC := (.seq (.region false d30r0)
  (.seq (.region false d30r1)
  .ret))
def d30res : List DRes := [.slot 2]
theorem c30 [Laid] : CodeOf Try.prog 30 21 d30 d30res := ⟨Try.f30, by kernel_rfl, by kernel_rfl, by kernel_rfl, by kernel_rfl, by kernel_rfl⟩
-- emendate/emendateref24.Valid
def d44r0 : List RO := [
  ⟨.box (.tmp 0), (some 1), none, [], none⟩,
  ⟨.mov (.con (.v (.bool false))), (some 2), none, [], none⟩]
def d44r1 : List RO := [
  ⟨.addOff 0 (.tmp 1), (some 6), none, [], none⟩,
  ⟨.load 1 false (.tmp 6), (some 7), none, [0], none⟩,
  ⟨.bin .lss (.tmp 7) (.con (.v (.int .i64 0))), (some 8), none, [1], none⟩,
  ⟨.mov (.tmp 8), (some 9), none, [2], none⟩,
  ⟨.addOff 0 (.tmp 1), (some 10), (some (9, false)), [3], none⟩,
  ⟨.load 1 false (.tmp 10), (some 11), (some (9, false)), [4, 3], none⟩,
  ⟨.bin .gtr (.tmp 11) (.con (.v (.int .i64 120))), (some 12), (some (9, false)), [5, 3], none⟩,
  ⟨.pick (.tmp 9) (.con (.v (.bool true))) (.tmp 12), (some 13), none, [3, 6], none⟩,
  ⟨.mov (.tmp 13), (some 14), none, [7, 3], none⟩,
  ⟨.addOff 1 (.tmp 1), (some 15), (some (14, false)), [8], none⟩,
  ⟨.load 1 false (.tmp 15), (some 16), (some (14, false)), [9, 8], none⟩,
  ⟨.bin .lss (.tmp 16) (.con (.v (.int .i64 1))), (some 17), (some (14, false)), [10, 8], none⟩,
  ⟨.pick (.tmp 14) (.con (.v (.bool true))) (.tmp 17), (some 18), none, [8, 11], none⟩,
  ⟨.mov (.tmp 18), (some 19), none, [12, 8], none⟩,
  ⟨.addOff 1 (.tmp 1), (some 20), (some (19, false)), [13], none⟩,
  ⟨.load 1 false (.tmp 20), (some 21), (some (19, false)), [14, 13], none⟩,
  ⟨.bin .gtr (.tmp 21) (.con (.v (.int .i64 1000))), (some 22), (some (19, false)), [15, 13], none⟩,
  ⟨.pick (.tmp 19) (.con (.v (.bool true))) (.tmp 22), (some 23), none, [13, 16], none⟩,
  ⟨.mov (.tmp 23), (some 24), none, [17, 13], none⟩,
  ⟨.addOff 2 (.tmp 1), (some 25), (some (24, false)), [18], none⟩,
  ⟨.load 1 false (.tmp 25), (some 26), (some (24, false)), [19, 18], none⟩,
  ⟨.bin .lss (.tmp 26) (.con (.v (.int .i64 0))), (some 27), (some (24, false)), [20, 18], none⟩,
  ⟨.pick (.tmp 24) (.con (.v (.bool true))) (.tmp 27), (some 28), none, [18, 21], none⟩,
  ⟨.mov (.tmp 28), (some 29), none, [22, 18], none⟩,
  ⟨.addOff 2 (.tmp 1), (some 30), (some (29, false)), [23], none⟩,
  ⟨.load 1 false (.tmp 30), (some 31), (some (29, false)), [24, 23], none⟩,
  ⟨.addOff 1 (.tmp 1), (some 32), (some (29, false)), [23], none⟩,
  ⟨.load 1 false (.tmp 32), (some 33), (some (29, false)), [26, 23], none⟩,
  ⟨.bin .geq (.tmp 31) (.tmp 33), (some 34), (some (29, false)), [25, 27, 23], none⟩,
  ⟨.pick (.tmp 29) (.con (.v (.bool true))) (.tmp 34), (some 35), none, [23, 28], none⟩,
  ⟨.mov (.tmp 35), (some 36), none, [29, 23], none⟩,
  ⟨.addOff 3 (.tmp 1), (some 37), (some (36, false)), [30], none⟩,
  ⟨.load 1 false (.tmp 37), (some 38), (some (36, false)), [31, 30], none⟩,
  ⟨.len (.tmp 38), (some 39), (some (36, false)), [32, 30], none⟩,
  ⟨.bin .gtr (.tmp 39) (.con (.v (.int .i64 600))), (some 40), (some (36, false)), [33, 30], none⟩,
  ⟨.pick (.tmp 36) (.con (.v (.bool true))) (.tmp 40), (some 41), none, [30, 34], none⟩]
def d44r2 : List RO := [
  ⟨.mov (.con (.v (.bool false))), (some 2), none, [], none⟩]
def d44r3 : List RO := [
  ⟨.mov (.con (.v (.int .i64 0))), (some 3), none, [], none⟩]
def d44r4 : List RO := [
  ⟨.mov (.tmp 3), (some 42), none, [], none⟩,
  ⟨.addOff 3 (.tmp 1), (some 43), none, [], none⟩,
  ⟨.load 1 false (.tmp 43), (some 44), none, [1], none⟩,
  ⟨.len (.tmp 44), (some 45), none, [2], none⟩,
  ⟨.bin .lss (.tmp 42) (.tmp 45), (some 46), none, [0, 3], none⟩]
def d44r5 : List RO := [
  ⟨.addOff 3 (.tmp 1), (some 49), none, [], none⟩,
  ⟨.load 1 false (.tmp 49), (some 50), none, [0], none⟩,
  ⟨.mov (.tmp 3), (some 51), none, [], none⟩,
  ⟨.idxAddr 6 (.tmp 50) (.tmp 51), (some 52), none, [1, 2], none⟩,
  ⟨.load 6 true (.tmp 52), (some 53), none, [3], none⟩,
  ⟨.alloc [(.v (.int .i64 0)), (.v (.int .i64 0)), (.v (.int .i64 0)), (.v (.int .i64 0)), (.v (.int .i64 0)), (.v (.int .i64 0))], (some 4), none, [], none⟩,
  ⟨.store 6 (.tmp 4) (.tmp 53), none, none, [5, 4, 0, 1, 2, 3, 4, 5], none⟩]
def d44r6 : List RO := [
  ⟨.addOff 1 (.tmp 4), (some 54), none, [], none⟩,
  ⟨.load 1 false (.tmp 54), (some 55), none, [0], none⟩,
  ⟨.bin .lss (.tmp 55) (.con (.v (.int .i64 0))), (some 56), none, [1], none⟩,
  ⟨.mov (.tmp 56), (some 57), none, [2], none⟩,
  ⟨.addOff 1 (.tmp 4), (some 58), (some (57, false)), [3], none⟩,
  ⟨.load 1 false (.tmp 58), (some 59), (some (57, false)), [4, 3], none⟩,
  ⟨.addOff 1 (.tmp 1), (some 60), (some (57, false)), [3], none⟩,
  ⟨.load 1 false (.tmp 60), (some 61), (some (57, false)), [6, 3], none⟩,
  ⟨.bin .geq (.tmp 59) (.tmp 61), (some 62), (some (57, false)), [5, 7, 3], none⟩,
  ⟨.pick (.tmp 57) (.con (.v (.bool true))) (.tmp 62), (some 63), none, [3, 8], none⟩,
  ⟨.mov (.tmp 63), (some 64), none, [9, 3], none⟩,
  ⟨.addOff 4 (.tmp 4), (some 65), (some (64, false)), [10], none⟩,
  ⟨.load 1 false (.tmp 65), (some 66), (some (64, false)), [11, 10], none⟩,
  ⟨.bin .lss (.tmp 66) (.con (.v (.int .i64 0))), (some 67), (some (64, false)), [12, 10], none⟩,
  ⟨.pick (.tmp 64) (.con (.v (.bool true))) (.tmp 67), (some 68), none, [10, 13], none⟩,
  ⟨.mov (.tmp 68), (some 69), none, [14, 10], none⟩,
  ⟨.addOff 4 (.tmp 4), (some 70), (some (69, false)), [15], none⟩,
  ⟨.load 1 false (.tmp 70), (some 71), (some (69, false)), [16, 15], none⟩,
  ⟨.bin .gtr (.tmp 71) (.con (.v (.int .i64 1000))), (some 72), (some (69, false)), [17, 15], none⟩,
  ⟨.pick (.tmp 69) (.con (.v (.bool true))) (.tmp 72), (some 73), none, [15, 18], none⟩,
  ⟨.mov (.tmp 73), (some 74), none, [19, 15], none⟩,
  ⟨.addOff 5 (.tmp 4), (some 75), (some (74, false)), [20], none⟩,
  ⟨.load 1 false (.tmp 75), (some 76), (some (74, false)), [21, 20], none⟩,
  ⟨.bin .lss (.tmp 76) (.con (.v (.int .i64 (-1)))), (some 77), (some (74, false)), [22, 20], none⟩,
  ⟨.pick (.tmp 74) (.con (.v (.bool true))) (.tmp 77), (some 78), none, [20, 23], none⟩]
def d44r7 : List RO := [
  ⟨.mov (.con (.v (.bool false))), (some 2), none, [], none⟩]
def d44r8 : List RO := [
  ⟨.mov (.con (.v (.bool false))), (some 5), none, [], none⟩]
def d44r9 : List RO := [
  ⟨.addOff 0 (.tmp 4), (some 79), none, [], none⟩,
  ⟨.load 1 false (.tmp 79), (some 80), none, [0], none⟩]
def d44r10 : List RO := [
  ⟨.bin .eql (.tmp 80) (.con (.v (.int .i64 1))), (some 82), none, [], none⟩,
  ⟨.mov (.tmp 82), (some 81), none, [0], none⟩]
def d44r11 : List RO := [
  ⟨.addOff 2 (.tmp 4), (some 83), none, [], none⟩,
  ⟨.load 1 false (.tmp 83), (some 84), none, [0], none⟩,
  ⟨.bin .eql (.tmp 84) (.con (.v (.int .i64 0))), (some 85), none, [1], none⟩,
  ⟨.mov (.tmp 85), (some 86), none, [2], none⟩,
  ⟨.addOff 3 (.tmp 4), (some 87), (some (86, true)), [3], none⟩,
  ⟨.load 1 false (.tmp 87), (some 88), (some (86, true)), [4, 3], none⟩,
  ⟨.bin .eql (.tmp 88) (.con (.v (.int .i64 0))), (some 89), (some (86, true)), [5, 3], none⟩,
  ⟨.pick (.tmp 86) (.tmp 89) (.con (.v (.bool false))), (some 90), none, [3, 6], none⟩,
  ⟨.mov (.tmp 90), (some 5), none, [7, 3, 0, 1, 2, 3, 4, 5, 6, 7], none⟩]
def d44r12 : List RO := [
  ⟨.bin .eql (.tmp 80) (.con (.v (.int .i64 2))), (some 92), none, [], none⟩,
  ⟨.mov (.tmp 92), (some 91), none, [0], none⟩]
def d44r13 : List RO := [
  ⟨.addOff 2 (.tmp 4), (some 93), none, [], none⟩,
  ⟨.load 1 false (.tmp 93), (some 94), none, [0], none⟩,
  ⟨.bin .geq (.tmp 94) (.con (.v (.int .i64 0))), (some 95), none, [1], none⟩,
  ⟨.mov (.tmp 95), (some 96), none, [2], none⟩,
  ⟨.addOff 2 (.tmp 4), (some 97), (some (96, true)), [3], none⟩,
  ⟨.load 1 false (.tmp 97), (some 98), (some (96, true)), [4, 3], none⟩,
  ⟨.addOff 0 (.tmp 1), (some 99), (some (96, true)), [3], none⟩,
  ⟨.load 1 false (.tmp 99), (some 100), (some (96, true)), [6, 3], none⟩,
  ⟨.bin .lss (.tmp 98) (.tmp 100), (some 101), (some (96, true)), [5, 7, 3], none⟩,
  ⟨.pick (.tmp 96) (.tmp 101) (.con (.v (.bool false))), (some 102), none, [3, 8], none⟩,
  ⟨.mov (.tmp 102), (some 103), none, [9, 3], none⟩,
  ⟨.addOff 3 (.tmp 4), (some 104), (some (103, true)), [10], none⟩,
  ⟨.load 1 false (.tmp 104), (some 105), (some (103, true)), [11, 10], none⟩,
  ⟨.bin .eql (.tmp 105) (.con (.v (.int .i64 0))), (some 106), (some (103, true)), [12, 10], none⟩,
  ⟨.pick (.tmp 103) (.tmp 106) (.con (.v (.bool false))), (some 107), none, [10, 13], none⟩,
  ⟨.mov (.tmp 107), (some 5), none, [14, 10, 0, 1, 2, 3, 4, 5, 6, 7, 8, 9, 10, 11, 12, 13, 14], none⟩]
def d44r14 : List RO := [
  ⟨.bin .eql (.tmp 80) (.con (.v (.int .i64 3))), (some 109), none, [], none⟩,
  ⟨.mov (.tmp 109), (some 108), none, [0], none⟩]
def d44r15 : List RO := [
  ⟨.addOff 2 (.tmp 4), (some 110), none, [], none⟩,
  ⟨.load 1 false (.tmp 110), (some 111), none, [0], none⟩,
  ⟨.bin .geq (.tmp 111) (.con (.v (.int .i64 0))), (some 112), none, [1], none⟩,
  ⟨.mov (.tmp 112), (some 113), none, [2], none⟩,
  ⟨.addOff 2 (.tmp 4), (some 114), (some (113, true)), [3], none⟩,
  ⟨.load 1 false (.tmp 114), (some 115), (some (113, true)), [4, 3], none⟩,
  ⟨.addOff 1 (.tmp 1), (some 116), (some (113, true)), [3], none⟩,
  ⟨.load 1 false (.tmp 116), (some 117), (some (113, true)), [6, 3], none⟩,
  ⟨.bin .lss (.tmp 115) (.tmp 117), (some 118), (some (113, true)), [5, 7, 3], none⟩,
  ⟨.pick (.tmp 113) (.tmp 118) (.con (.v (.bool false))), (some 119), none, [3, 8], none⟩,
  ⟨.mov (.tmp 119), (some 120), none, [9, 3], none⟩,
  ⟨.addOff 3 (.tmp 4), (some 121), (some (120, true)), [10], none⟩,
  ⟨.load 1 false (.tmp 121), (some 122), (some (120, true)), [11, 10], none⟩,
  ⟨.bin .eql (.tmp 122) (.con (.v (.int .i64 0))), (some 123), (some (120, true)), [12, 10], none⟩,
  ⟨.pick (.tmp 120) (.tmp 123) (.con (.v (.bool false))), (some 124), none, [10, 13], none⟩,
  ⟨.mov (.tmp 124), (some 5), none, [14, 10, 0, 1, 2, 3, 4, 5, 6, 7, 8, 9, 10, 11, 12, 13, 14], none⟩]
def d44r16 : List RO := [
  ⟨.bin .eql (.tmp 80) (.con (.v (.int .i64 4))), (some 126), none, [], none⟩,
  ⟨.mov (.tmp 126), (some 125), none, [0], none⟩]
def d44r17 : List RO := [
  ⟨.addOff 2 (.tmp 4), (some 127), none, [], none⟩,
  ⟨.load 1 false (.tmp 127), (some 128), none, [0], none⟩,
  ⟨.bin .geq (.tmp 128) (.con (.v (.int .i64 0))), (some 129), none, [1], none⟩,
  ⟨.mov (.tmp 129), (some 130), none, [2], none⟩,
  ⟨.addOff 2 (.tmp 4), (some 131), (some (130, true)), [3], none⟩,
  ⟨.load 1 false (.tmp 131), (some 132), (some (130, true)), [4, 3], none⟩,
  ⟨.addOff 1 (.tmp 1), (some 133), (some (130, true)), [3], none⟩,
  ⟨.load 1 false (.tmp 133), (some 134), (some (130, true)), [6, 3], none⟩,
  ⟨.bin .lss (.tmp 132) (.tmp 134), (some 135), (some (130, true)), [5, 7, 3], none⟩,
  ⟨.pick (.tmp 130) (.tmp 135) (.con (.v (.bool false))), (some 136), none, [3, 8], none⟩,
  ⟨.mov (.tmp 136), (some 137), none, [9, 3], none⟩,
  ⟨.addOff 3 (.tmp 4), (some 138), (some (137, true)), [10], none⟩,
  ⟨.load 1 false (.tmp 138), (some 139), (some (137, true)), [11, 10], none⟩,
  ⟨.bin .geq (.tmp 139) (.con (.v (.int .i64 0))), (some 140), (some (137, true)), [12, 10], none⟩,
  ⟨.pick (.tmp 137) (.tmp 140) (.con (.v (.bool false))), (some 141), none, [10, 13], none⟩,
  ⟨.mov (.tmp 141), (some 142), none, [14, 10], none⟩,
  ⟨.addOff 3 (.tmp 4), (some 143), (some (142, true)), [15], none⟩,
  ⟨.load 1 false (.tmp 143), (some 144), (some (142, true)), [16, 15], none⟩,
  ⟨.addOff 1 (.tmp 1), (some 145), (some (142, true)), [15], none⟩,
  ⟨.load 1 false (.tmp 145), (some 146), (some (142, true)), [18, 15], none⟩,
  ⟨.bin .lss (.tmp 144) (.tmp 146), (some 147), (some (142, true)), [17, 19, 15], none⟩,
  ⟨.pick (.tmp 142) (.tmp 147) (.con (.v (.bool false))), (some 148), none, [15, 20], none⟩,
  ⟨.mov (.tmp 148), (some 5), none, [21, 15, 0, 1, 2, 3, 4, 5, 6, 7, 8, 9, 10, 11, 12, 13, 14, 15, 16, 17, 18, 19, 20, 21], none⟩]
def d44r18 : List RO := [
  ⟨.mov (.tmp 5), (some 149), none, [], none⟩,
  ⟨.un .not (.tmp 149), (some 150), none, [0], none⟩]
def d44r19 : List RO := [
  ⟨.mov (.con (.v (.bool false))), (some 2), none, [], none⟩]
def d44r20 : List RO := [
  ⟨.mov (.tmp 3), (some 47), none, [], none⟩,
  ⟨.bin .add (.tmp 47) (.con (.v (.int .i64 1))), (some 48), none, [0], none⟩,
  ⟨.mov (.tmp 48), (some 3), none, [1, 0, 1], none⟩]
def d44r21 : List RO := [
  ⟨.mov (.con (.v (.bool true))), (some 2), none, [], none⟩]
def d44 : DC := (.seq (.region false d44r0)
  (.seq (.seq (.region false d44r1)
  (.cond (.tmp 41) (.seq (.region false d44r2)
  .ret)
  .skip))
  (.seq (.seq (.region false d44r3)
  (.block 0 (.loop (.seq (.seq (.region false d44r4)
  (.cond (.tmp 46) .skip
  (.exit 0)))
  (.seq (.block 1 (.seq (.region false d44r5)
  (.seq (.seq (.region false d44r6)
  (.cond (.tmp 78) (.seq (.region false d44r7)
  .ret)
  .skip))
  (.seq (.region false d44r8)
  (.seq (.seq (.region false d44r9)
  (.block 2 (.seq (.region false d44r10)
  (.cond (.tmp 81) (.region false d44r11)
  (.seq (.region false d44r12)
  (.cond (.tmp 91) (.region false d44r13)
  (.seq (.region false d44r14)
  (.cond (.tmp 108) (.region false d44r15)
  (.seq (.region false d44r16)
  (.cond (.tmp 125) (.region false d44r17)
  .skip))))))))))
  (.seq (.region false d44r18)
  (.cond (.tmp 150) (.seq (.region false d44r19)
  .ret)
  .skip)))))))
  (.region false d44r20))))))
  (.seq (.region false d44r21)
  .ret))))
def d44res : List DRes := [.slot 2]
theorem c44 [Laid] : CodeOf Try.prog 44 151 d44 d44res := ⟨Try.f44, by kernel_rfl, by kernel_rfl, by kernel_rfl, by kernel_rfl, by kernel_rfl⟩
-- emendate/emendateref37.Valid
def d31r0 : List RO := [
  ⟨.box (.tmp 0), (some 2), none, [], none⟩,
  ⟨.mov (.con (.v (.bool false))), (some 4), none, [], none⟩]
def d31r1 : List RO := [
  ⟨.addOff 0 (.tmp 2), (some 8), none, [], none⟩,
  ⟨.load 1 false (.tmp 8), (some 9), none, [0], none⟩,
  ⟨.bin .lss (.tmp 9) (.con (.v (.int .i64 1))), (some 10), none, [1], none⟩,
  ⟨.mov (.tmp 10), (some 11), none, [2], none⟩,
  ⟨.addOff 2 (.tmp 2), (some 12), (some (11, false)), [3], none⟩,
  ⟨.load 1 false (.tmp 12), (some 13), (some (11, false)), [4, 3], none⟩,
  ⟨.len (.tmp 13), (some 14), (some (11, false)), [5, 3], none⟩,
  ⟨.addOff 0 (.tmp 2), (some 15), (some (11, false)), [3], none⟩,
  ⟨.load 1 false (.tmp 15), (some 16), (some (11, false)), [7, 3], none⟩,
  ⟨.bin .neq (.tmp 14) (.tmp 16), (some 17), (some (11, false)), [6, 8, 3], none⟩,
  ⟨.pick (.tmp 11) (.con (.v (.bool true))) (.tmp 17), (some 18), none, [3, 9], none⟩]
def d31r2 : List RO := [
  ⟨.mov (.con (.v (.bool false))), (some 4), none, [], none⟩]
def d31r3 : List RO := [
  ⟨.mov (.con (.v (.int .i64 0))), (some 5), none, [], none⟩]
def d31r4 : List RO := [
  ⟨.mov (.tmp 5), (some 19), none, [], none⟩,
  ⟨.addOff 2 (.tmp 2), (some 20), none, [], none⟩,
  ⟨.load 1 false (.tmp 20), (some 21), none, [1], none⟩,
  ⟨.len (.tmp 21), (some 22), none, [2], none⟩,
  ⟨.bin .lss (.tmp 19) (.tmp 22), (some 23), none, [0, 3], none⟩]
def d31r5 : List RO := [
  ⟨.addOff 2 (.tmp 2), (some 26), none, [], none⟩,
  ⟨.load 1 false (.tmp 26), (some 27), none, [0], none⟩,
  ⟨.mov (.tmp 5), (some 28), none, [], none⟩,
  ⟨.idxAddr 1 (.tmp 27) (.tmp 28), (some 29), none, [1, 2], none⟩,
  ⟨.load 1 false (.tmp 29), (some 30), none, [3], none⟩,
  ⟨.bin .lss (.tmp 30) (.con (.v (.int .i64 0))), (some 31), none, [4], none⟩,
  ⟨.mov (.tmp 31), (some 32), none, [5], none⟩,
  ⟨.addOff 2 (.tmp 2), (some 33), (some (32, false)), [6], none⟩,
  ⟨.load 1 false (.tmp 33), (some 34), (some (32, false)), [7, 6], none⟩,
  ⟨.mov (.tmp 5), (some 35), (some (32, false)), [6], none⟩,
  ⟨.idxAddr 1 (.tmp 34) (.tmp 35), (some 36), (some (32, false)), [8, 9, 6], none⟩,
  ⟨.load 1 false (.tmp 36), (some 37), (some (32, false)), [10, 6], none⟩,
  ⟨.bin .gtr (.tmp 37) (.con (.v (.int .i64 1099511627776))), (some 38), (some (32, false)), [11, 6], none⟩,
  ⟨.pick (.tmp 32) (.con (.v (.bool true))) (.tmp 38), (some 39), none, [6, 12], none⟩]
def d31r6 : List RO := [
  ⟨.mov (.con (.v (.bool false))), (some 4), none, [], none⟩]
def d31r7 : List RO := [
  ⟨.mov (.tmp 5), (some 24), none, [], none⟩,
  ⟨.bin .add (.tmp 24) (.con (.v (.int .i64 1))), (some 25), none, [0], none⟩,
  ⟨.mov (.tmp 25), (some 5), none, [1, 0, 1], none⟩]
def d31r8 : List RO := [
  ⟨.mov (.con (.v (.int .i64 0))), (some 6), none, [], none⟩]
def d31r9 : List RO := [
  ⟨.mov (.tmp 6), (some 40), none, [], none⟩,
  ⟨.addOff 1 (.tmp 2), (some 41), none, [], none⟩,
  ⟨.load 1 false (.tmp 41), (some 42), none, [1], none⟩,
  ⟨.len (.tmp 42), (some 43), none, [2], none⟩,
  ⟨.bin .lss (.tmp 40) (.tmp 43), (some 44), none, [0, 3], none⟩]
def d31r10 : List RO := [
  ⟨.addOff 1 (.tmp 2), (some 47), none, [], none⟩,
  ⟨.load 1 false (.tmp 47), (some 48), none, [0], none⟩,
  ⟨.mov (.tmp 6), (some 49), none, [], none⟩,
  ⟨.idxAddr 5 (.tmp 48) (.tmp 49), (some 50), none, [1, 2], none⟩,
  ⟨.load 5 true (.tmp 50), (some 51), none, [3], none⟩,
  ⟨.alloc [(.v (.int .i64 0)), (.v (.int .i64 0)), (.v (.int .i64 0)), (.v (.int .i64 0)), .nil0], (some 7), none, [], none⟩,
  ⟨.store 5 (.tmp 7) (.tmp 51), none, none, [5, 4, 0, 1, 2, 3, 4, 5], none⟩]
def d31r11 : List RO := [
  ⟨.addOff 0 (.tmp 7), (some 52), none, [], none⟩,
  ⟨.load 1 false (.tmp 52), (some 53), none, [0], none⟩,
  ⟨.bin .lss (.tmp 53) (.con (.v (.int .i64 0))), (some 54), none, [1], none⟩,
  ⟨.mov (.tmp 54), (some 55), none, [2], none⟩,
  ⟨.addOff 0 (.tmp 7), (some 56), (some (55, false)), [3], none⟩,
  ⟨.load 1 false (.tmp 56), (some 57), (some (55, false)), [4, 3], none⟩,
  ⟨.addOff 1 (.tmp 7), (some 58), (some (55, false)), [3], none⟩,
  ⟨.load 1 false (.tmp 58), (some 59), (some (55, false)), [6, 3], none⟩,
  ⟨.bin .gtr (.tmp 57) (.tmp 59), (some 60), (some (55, false)), [5, 7, 3], none⟩,
  ⟨.pick (.tmp 55) (.con (.v (.bool true))) (.tmp 60), (some 61), none, [3, 8], none⟩,
  ⟨.mov (.tmp 61), (some 62), none, [9, 3], none⟩,
  ⟨.addOff 1 (.tmp 7), (some 63), (some (62, false)), [10], none⟩,
  ⟨.load 1 false (.tmp 63), (some 64), (some (62, false)), [11, 10], none⟩,
  ⟨.addOff 0 (.tmp 2), (some 65), (some (62, false)), [10], none⟩,
  ⟨.load 1 false (.tmp 65), (some 66), (some (62, false)), [13, 10], none⟩,
  ⟨.bin .geq (.tmp 64) (.tmp 66), (some 67), (some (62, false)), [12, 14, 10], none⟩,
  ⟨.pick (.tmp 62) (.con (.v (.bool true))) (.tmp 67), (some 68), none, [10, 15], none⟩,
  ⟨.mov (.tmp 68), (some 69), none, [16, 10], none⟩,
  ⟨.addOff 2 (.tmp 7), (some 70), (some (69, false)), [17], none⟩,
  ⟨.load 1 false (.tmp 70), (some 71), (some (69, false)), [18, 17], none⟩,
  ⟨.bin .lss (.tmp 71) (.con (.v (.int .i64 0))), (some 72), (some (69, false)), [19, 17], none⟩,
  ⟨.pick (.tmp 69) (.con (.v (.bool true))) (.tmp 72), (some 73), none, [17, 20], none⟩,
  ⟨.mov (.tmp 73), (some 74), none, [21, 17], none⟩,
  ⟨.addOff 2 (.tmp 7), (some 75), (some (74, false)), [22], none⟩,
  ⟨.load 1 false (.tmp 75), (some 76), (some (74, false)), [23, 22], none⟩,
  ⟨.mov (.tmp 1), (some 77), (some (74, false)), [22], none⟩,
  ⟨.bin .geq (.tmp 76) (.tmp 77), (some 78), (some (74, false)), [24, 25, 22], none⟩,
  ⟨.pick (.tmp 74) (.con (.v (.bool true))) (.tmp 78), (some 79), none, [22, 26], none⟩,
  ⟨.mov (.tmp 79), (some 80), none, [27, 22], none⟩,
  ⟨.addOff 3 (.tmp 7), (some 81), (some (80, false)), [28], none⟩,
  ⟨.load 1 false (.tmp 81), (some 82), (some (80, false)), [29, 28], none⟩,
  ⟨.bin .lss (.tmp 82) (.con (.v (.int .i64 0))), (some 83), (some (80, false)), [30, 28], none⟩,
  ⟨.pick (.tmp 80) (.con (.v (.bool true))) (.tmp 83), (some 84), none, [28, 31], none⟩,
  ⟨.mov (.tmp 84), (some 85), none, [32, 28], none⟩,
  ⟨.addOff 3 (.tmp 7), (some 86), (some (85, false)), [33], none⟩,
  ⟨.load 1 false (.tmp 86), (some 87), (some (85, false)), [34, 33], none⟩,
  ⟨.bin .geq (.tmp 87) (.con (.v (.int .i64 1099511627776))), (some 88), (some (85, false)), [35, 33], none⟩,
  ⟨.pick (.tmp 85) (.con (.v (.bool true))) (.tmp 88), (some 89), none, [33, 36], none⟩,
  ⟨.mov (.tmp 89), (some 90), none, [37, 33], none⟩,
  ⟨.addOff 0 (.tmp 7), (some 91), (some (90, false)), [38], none⟩,
  ⟨.load 1 false (.tmp 91), (some 92), (some (90, false)), [39, 38], none⟩,
  ⟨.addOff 1 (.tmp 7), (some 93), (some (90, false)), [38], none⟩,
  ⟨.load 1 false (.tmp 93), (some 94), (some (90, false)), [41, 38], none⟩,
  ⟨.bin .eql (.tmp 92) (.tmp 94), (some 95), (some (90, false)), [40, 42, 38], none⟩,
  ⟨.mov (.tmp 95), (some 96), (some (90, false)), [43, 38, 38], none⟩,
  ⟨.addOff 3 (.tmp 7), (some 97), (some (96, true)), [44], none⟩,
  ⟨.load 1 false (.tmp 97), (some 98), (some (96, true)), [45, 44], none⟩,
  ⟨.bin .eql (.tmp 98) (.con (.v (.int .i64 0))), (some 99), (some (96, true)), [46, 44], none⟩,
  ⟨.pick (.tmp 96) (.tmp 99) (.con (.v (.bool false))), (some 100), (some (90, false)), [44, 47, 38], none⟩,
  ⟨.pick (.tmp 90) (.con (.v (.bool true))) (.tmp 100), (some 101), none, [38, 48], none⟩,
  ⟨.mov (.tmp 101), (some 102), none, [49, 44], none⟩,
  ⟨.mov (.tmp 6), (some 103), (some (102, false)), [50], none⟩,
  ⟨.bin .gtr (.tmp 103) (.con (.v (.int .i64 0))), (some 104), (some (102, false)), [51, 50], none⟩,
  ⟨.mov (.tmp 104), (some 105), (some (102, false)), [52, 50, 50], none⟩,
  ⟨.addOff 1 (.tmp 2), (some 106), (some (105, true)), [53], none⟩,
  ⟨.load 1 false (.tmp 106), (some 107), (some (105, true)), [54, 53], none⟩,
  ⟨.mov (.tmp 6), (some 108), (some (105, true)), [53], none⟩,
  ⟨.bin .sub (.tmp 108) (.con (.v (.int .i64 1))), (some 109), (some (105, true)), [56, 53], none⟩,
  ⟨.idxAddr 5 (.tmp 107) (.tmp 109), (some 110), (some (105, true)), [55, 57, 53], none⟩,
  ⟨.load 5 true (.tmp 110), (some 111), (some (105, true)), [58, 53], none⟩,
  ⟨.load 5 true (.tmp 7), (some 112), (some (105, true)), [53], none⟩,
  ⟨.call 45 [(.tmp 111), (.tmp 112)], (some 113), (some (105, true)), [59, 60, 53, 53], none⟩,
  ⟨.un .not (.tmp 113), (some 114), (some (105, true)), [61, 53], none⟩,
  ⟨.pick (.tmp 105) (.tmp 114) (.con (.v (.bool false))), (some 115), (some (102, false)), [53, 62, 50], none⟩,
  ⟨.pick (.tmp 102) (.con (.v (.bool true))) (.tmp 115), (some 116), none, [50, 63], none⟩]
def d31r12 : List RO := [
  ⟨.mov (.con (.v (.bool false))), (some 4), none, [], none⟩]
def d31r13 : List RO := [
  ⟨.mov (.tmp 6), (some 45), none, [], none⟩,
  ⟨.bin .add (.tmp 45) (.con (.v (.int .i64 1))), (some 46), none, [0], none⟩,
  ⟨.mov (.tmp 46), (some 6), none, [1, 0, 1], none⟩]
def d31r14 : List RO := [
  ⟨.mov (.con (.v (.bool true))), (some 4), none, [], none⟩]
def d31 : DC := (.seq (.region false d31r0)
  (.seq (.seq (.region false d31r1)
  (.cond (.tmp 18) (.seq (.region false d31r2)
  .ret)
  .skip))
  (.seq (.seq (.region false d31r3)
  (.block 0 (.loop (.seq (.seq (.region false d31r4)
  (.cond (.tmp 23) .skip
  (.exit 0)))
  (.seq (.block 1 (.seq (.region false d31r5)
  (.cond (.tmp 39) (.seq (.region false d31r6)
  .ret)
  .skip)))
  (.region false d31r7))))))
  (.seq (.seq (.region false d31r8)
  (.block 2 (.loop (.seq (.seq (.region false d31r9)
  (.cond (.tmp 44) .skip
  (.exit 2)))
  (.seq (.block 3 (.seq (.region false d31r10)
  (.seq (.region true d31r11)
  (.cond (.tmp 116) (.seq (.region false d31r12)
  .ret)
  .skip))))
  (.region false d31r13))))))
  (.seq (.region false d31r14)
  .ret)))))
def d31res : List DRes := [.slot 4]
theorem c31 [Laid] : CodeOf Try.prog 31 117 d31 d31res := ⟨Try.f31, by kernel_rfl, by kernel_rfl, by kernel_rfl, by kernel_rfl, by kernel_rfl⟩
-- emendate/emendateref37.Before
def d45r0 : List RO := [
  ⟨.box (.tmp 0), (some 2), none, [], none⟩,
  ⟨.box (.tmp 1), (some 3), none, [], none⟩,
  ⟨.mov (.con (.v (.bool false))), (some 4), none, [], none⟩]
def d45r1 : List RO := [
  ⟨.addOff 0 (.tmp 2), (some 5), none, [], none⟩,
  ⟨.load 1 false (.tmp 5), (some 6), none, [0], none⟩,
  ⟨.addOff 0 (.tmp 3), (some 7), none, [], none⟩,
  ⟨.load 1 false (.tmp 7), (some 8), none, [2], none⟩,
  ⟨.bin .neq (.tmp 6) (.tmp 8), (some 9), none, [1, 3], none⟩]
def d45r2 : List RO := [
  ⟨.addOff 0 (.tmp 2), (some 10), none, [], none⟩,
  ⟨.load 1 false (.tmp 10), (some 11), none, [0], none⟩,
  ⟨.addOff 0 (.tmp 3), (some 12), none, [], none⟩,
  ⟨.load 1 false (.tmp 12), (some 13), none, [2], none⟩,
  ⟨.bin .lss (.tmp 11) (.tmp 13), (some 14), none, [1, 3], none⟩,
  ⟨.mov (.tmp 14), (some 4), none, [4, 0, 1, 2, 3, 4], none⟩]
def d45r3 : List RO := [
  ⟨.addOff 1 (.tmp 2), (some 15), none, [], none⟩,
  ⟨.load 1 false (.tmp 15), (some 16), none, [0], none⟩,
  ⟨.addOff 1 (.tmp 3), (some 17), none, [], none⟩,
  ⟨.load 1 false (.tmp 17), (some 18), none, [2], none⟩,
  ⟨.bin .neq (.tmp 16) (.tmp 18), (some 19), none, [1, 3], none⟩]
def d45r4 : List RO := [
  ⟨.addOff 1 (.tmp 2), (some 20), none, [], none⟩,
  ⟨.load 1 false (.tmp 20), (some 21), none, [0], none⟩,
  ⟨.addOff 1 (.tmp 3), (some 22), none, [], none⟩,
  ⟨.load 1 false (.tmp 22), (some 23), none, [2], none⟩,
  ⟨.bin .lss (.tmp 21) (.tmp 23), (some 24), none, [1, 3], none⟩,
  ⟨.mov (.tmp 24), (some 4), none, [4, 0, 1, 2, 3, 4], none⟩]
def d45r5 : List RO := [
  ⟨.addOff 2 (.tmp 2), (some 25), none, [], none⟩,
  ⟨.load 1 false (.tmp 25), (some 26), none, [0], none⟩,
  ⟨.addOff 2 (.tmp 3), (some 27), none, [], none⟩,
  ⟨.load 1 false (.tmp 27), (some 28), none, [2], none⟩,
  ⟨.bin .lss (.tmp 26) (.tmp 28), (some 29), none, [1, 3], none⟩,
  ⟨.mov (.tmp 29), (some 4), none, [4, 0, 1, 2, 3, 4], none⟩]
def d45 : DC := (.seq (.region false d45r0)
  (.seq (.seq (.region false d45r1)
  (.cond (.tmp 9) (.seq (.region false d45r2)
  .ret)
  .skip))
  (.seq (.seq (.region false d45r3)
  (.cond (.tmp 19) (.seq (.region false d45r4)
  .ret)
  .skip))
  (.seq (.region false d45r5)
  .ret))))
def d45res : List DRes := [.slot 4]
theorem c45 [Laid] : CodeOf Try.prog 45 30 d45 d45res := ⟨Try.f45, by kernel_rfl, by kernel_rfl, by kernel_rfl, by kernel_rfl, by kernel_rfl⟩
-- emendate/emendateref39.Fair
def d10r0 : List RO := [
  ⟨.box (.tmp 0), (some 2), none, [], none⟩,
  ⟨.box (.tmp 1), (some 3), none, [], none⟩,
  ⟨.mov (.con (.v (.bool false))), (some 4), none, [], none⟩]
def d10r1 : List RO := [
  ⟨.load 4 true (.tmp 2), (some 5), none, [], none⟩,
  ⟨.call 30 [(.tmp 5)], (some 6), none, [0], none⟩,
  ⟨.mov (.tmp 6), (some 7), none, [1, 1], none⟩,
  ⟨.addOff 0 (.tmp 3), (some 8), (some (7, true)), [2], none⟩,
  ⟨.load 1 false (.tmp 8), (some 9), (some (7, true)), [3, 2], none⟩,
  ⟨.bin .leq (.tmp 9) (.con (.v (.int .i64 11))), (some 10), (some (7, true)), [4, 2], none⟩,
  ⟨.pick (.tmp 7) (.tmp 10) (.con (.v (.bool false))), (some 11), none, [2, 5], none⟩,
  ⟨.mov (.tmp 11), (some 12), none, [6, 2], none⟩,
  ⟨.addOff 1 (.tmp 3), (some 13), (some (12, true)), [7], none⟩,
  ⟨.load 1 false (.tmp 13), (some 14), (some (12, true)), [8, 7], none⟩,
  ⟨.len (.tmp 14), (some 15), (some (12, true)), [9, 7], none⟩,
  ⟨.bin .leq (.tmp 15) (.con (.v (.int .i64 120))), (some 16), (some (12, true)), [10, 7], none⟩,
  ⟨.pick (.tmp 12) (.tmp 16) (.con (.v (.bool false))), (some 17), none, [7, 11], none⟩,
  ⟨.mov (.tmp 17), (some 18), none, [12, 7], none⟩,
  ⟨.load 3 true (.tmp 3), (some 19), (some (18, true)), [13], none⟩,
  ⟨.addOff 0 (.tmp 2), (some 20), (some (18, true)), [13], none⟩,
  ⟨.load 1 false (.tmp 20), (some 21), (some (18, true)), [15, 13], none⟩,
  ⟨.call 31 [(.tmp 19), (.tmp 21)], (some 22), (some (18, true)), [14, 16, 13, 13], none⟩,
  ⟨.pick (.tmp 18) (.tmp 22) (.con (.v (.bool false))), (some 23), none, [13, 17], none⟩,
  ⟨.mov (.tmp 23), (some 4), none, [18, 17, 0, 1, 2, 3, 4, 5, 6, 7, 8, 9, 10, 11, 12, 13, 14, 15, 16, 17, 18], none⟩]
def d10 : DC := (.seq (.region false d10r0)
  (.seq (.region false d10r1)
  .ret))
def d10res : List DRes := [.slot 4]
theorem c10 [Laid] : CodeOf Try.prog 10 24 d10 d10res := ⟨Try.f10, by kernel_rfl, by kernel_rfl, by kernel_rfl, by kernel_rfl, by kernel_rfl⟩
-- emendate/emendatelaw39.example
def d29r0 : List RO := [
  ⟨.alloc [(.v (.int .i64 0)), (.v (.int .i64 0)), (.v (.int .i64 0)), .nil0], (some 0), none, [], none⟩,
  ⟨.alloc [(.v (.int .i64 0)), .nil0, .nil0], (some 1), none, [], none⟩]
def d29r1 : List RO := [
  ⟨.build [(.v (.int .i64 0)), (.v (.int .i64 0)), (.v (.int .i64 0)), (.v (.int .i64 0)), (.v (.int .i64 0)), (.v (.int .i64 0))] [(0, 1, (.con (.v (.int .i64 2)))), (4, 1, (.con (.v (.int .i64 1)))), (5, 1, (.con (.v (.int .i64 (-1)))))], (some 4), none, [], none⟩,
  ⟨.build [(.v (.int .i64 0)), (.v (.int .i64 0)), (.v (.int .i64 0)), (.v (.int .i64 0)), (.v (.int .i64 0)), (.v (.int .i64 0))] [(0, 1, (.con (.v (.int .i64 4)))), (5, 1, (.con (.v (.int .i64 (-1)))))], (some 5), none, [], none⟩,
  ⟨.bslice 2 6 [(.v (.int .i64 0)), (.v (.int .i64 0)), (.v (.int .i64 0)), (.v (.int .i64 0)), (.v (.int .i64 0)), (.v (.int .i64 0)), (.v (.int .i64 0)), (.v (.int .i64 0)), (.v (.int .i64 0)), (.v (.int .i64 0)), (.v (.int .i64 0)), (.v (.int .i64 0))] [(0, 6, (.tmp 4)), (6, 6, (.tmp 5))], (some 6), none, [0, 1], none⟩,
  ⟨.build [(.v (.int .i64 0)), (.v (.int .i64 0)), (.v (.int .i64 0)), .nil0] [(0, 1, (.con (.v (.int .i64 1)))), (1, 1, (.con (.v (.int .i64 1)))), (3, 1, (.tmp 6))], (some 7), none, [2], none⟩,
  ⟨.alloc [(.v (.int .i64 0)), (.v (.int .i64 0)), (.v (.int .i64 0)), .nil0], (some 2), none, [], none⟩,
  ⟨.store 4 (.tmp 2) (.tmp 7), none, none, [4, 3, 0, 1, 2, 3, 4], none⟩]
def d29r2 : List RO := [
  ⟨.build [(.v (.int .i64 0)), (.v (.int .i64 0)), (.v (.int .i64 0)), (.v (.int .i64 0)), .nil0] [(0, 1, (.con (.v (.int .i64 0)))), (1, 1, (.con (.v (.int .i64 1)))), (3, 1, (.con (.v (.int .i64 2))))], (some 8), none, [], none⟩,
  ⟨.bslice 1 5 [(.v (.int .i64 0)), (.v (.int .i64 0)), (.v (.int .i64 0)), (.v (.int .i64 0)), .nil0] [(0, 5, (.tmp 8))], (some 9), none, [0], none⟩,
  ⟨.bslice 2 1 [(.v (.int .i64 0)), (.v (.int .i64 0))] [(0, 1, (.con (.v (.int .i64 1099511627776)))), (1, 1, (.con (.v (.int .i64 0))))], (some 10), none, [], none⟩,
  ⟨.build [(.v (.int .i64 0)), .nil0, .nil0] [(0, 1, (.con (.v (.int .i64 2)))), (1, 1, (.tmp 9)), (2, 1, (.tmp 10))], (some 11), none, [1, 2], none⟩,
  ⟨.alloc [(.v (.int .i64 0)), .nil0, .nil0], (some 3), none, [], none⟩,
  ⟨.store 3 (.tmp 3) (.tmp 11), none, none, [4, 3, 0, 1, 2, 3, 4], none⟩]
def d29r3 : List RO := [
  ⟨.load 4 true (.tmp 2), (some 12), none, [], none⟩,
  ⟨.load 3 true (.tmp 3), (some 13), none, [], none⟩,
  ⟨.store 4 (.tmp 0) (.tmp 12), none, none, [0, 0], none⟩,
  ⟨.store 3 (.tmp 1) (.tmp 13), none, none, [1, 2, 0, 1, 2], none⟩]
def d29 : DC := (.seq (.region false d29r0)
  (.seq (.region false d29r1)
  (.seq (.region false d29r2)
  (.seq (.regionT d29r3)
  .ret))))
def d29res : List DRes := [.cell 0 4 true, .cell 1 3 true]
theorem c29 [Laid] : CodeOf Try.prog 29 14 d29 d29res := ⟨Try.f29, by kernel_rfl, by kernel_rfl, by kernel_rfl, by kernel_rfl, by kernel_rfl⟩
-- emendate/emendatelaw39.awake
def d9r0 : List RO := [
  ⟨.mov (.con (.v (.bool false))), (some 0), none, [], none⟩]
def d9r1 : List RO := [
  ⟨.call 29 [], (some 12), none, [], none⟩,
  ⟨.mov (.tmp 12), (some 11), none, [0], none⟩,
  ⟨.extract 0 (.tmp 11), (some 13), none, [1], none⟩,
  ⟨.extract 1 (.tmp 11), (some 14), none, [1], none⟩,
  ⟨.alloc [(.v (.int .i64 0)), (.v (.int .i64 0)), (.v (.int .i64 0)), .nil0], (some 1), none, [], none⟩,
  ⟨.alloc [(.v (.int .i64 0)), .nil0, .nil0], (some 2), none, [], none⟩,
  ⟨.store 4 (.tmp 1) (.tmp 13), none, none, [4, 2, 0, 0, 1, 2, 4, 5], none⟩,
  ⟨.store 3 (.tmp 2) (.tmp 14), none, none, [5, 3, 6, 0, 1, 2, 3, 4, 5, 6], none⟩]
def d9r2 : List RO := [
  ⟨.bslice 2 1 [(.v (.int .i64 0)), (.v (.int .i64 0))] [(0, 1, (.con (.v (.int .i64 0)))), (1, 1, (.con (.v (.int .i64 0))))], (some 15), none, [], none⟩,
  ⟨.build [(.v (.int .i64 0)), (.v (.int .i64 0))] [(0, 1, (.con (.v (.int .i64 1)))), (1, 1, (.con (.v (.int .i64 0))))], (some 16), none, [], none⟩,
  ⟨.build [(.v (.int .i64 0)), .nil0, (.v (.int .i64 0)), (.v (.int .i64 0)), (.v (.int .i64 0))] [(0, 1, (.con (.v (.int .i64 0)))), (1, 1, (.tmp 15)), (3, 2, (.tmp 16))], (some 17), none, [0, 1], none⟩,
  ⟨.build [(.v (.int .i64 0)), .nil0, (.v (.int .i64 0)), (.v (.int .i64 0)), (.v (.int .i64 0))] [(0, 1, (.con (.v (.int .i64 1)))), (2, 1, (.con (.v (.int .i64 3))))], (some 18), none, [], none⟩,
  ⟨.bslice 2 1 [(.v (.int .i64 0)), (.v (.int .i64 0))] [(0, 1, (.con (.v (.int .i64 0)))), (1, 1, (.con (.v (.int .i64 1))))], (some 19), none, [], none⟩,
  ⟨.build [(.v (.int .i64 0)), (.v (.int .i64 0))] [(0, 1, (.con (.v (.int .i64 1)))), (1, 1, (.con (.v (.int .i64 0))))], (some 20), none, [], none⟩,
  ⟨.build [(.v (.int .i64 0)), .nil0, (.v (.int .i64 0)), (.v (.int .i64 0)), (.v (.int .i64 0))] [(0, 1, (.con (.v (.int .i64 1)))), (1, 1, (.tmp 19)), (3, 2, (.tmp 20))], (some 21), none, [4, 5], none⟩,
  ⟨.bslice 2 1 [(.v (.int .i64 0)), (.v (.int .i64 0))] [(0, 1, (.con (.v (.int .i64 1)))), (1, 1, (.con (.v (.int .i64 2))))], (some 22), none, [], none⟩,
  ⟨.build [(.v (.int .i64 0)), (.v (.int .i64 0))] [(0, 1, (.con (.v (.int .i64 1)))), (1, 1, (.con (.v (.int .i64 1))))], (some 23), none, [], none⟩,
  ⟨.build [(.v (.int .i64 0)), .nil0, (.v (.int .i64 0)), (.v (.int .i64 0)), (.v (.int .i64 0))] [(0, 1, (.con (.v (.int .i64 1)))), (1, 1, (.tmp 22)), (3, 2, (.tmp 23))], (some 24), none, [7, 8], none⟩,
  ⟨.bslice 2 1 [(.v (.int .i64 0)), (.v (.int .i64 0))] [(0, 1, (.con (.v (.int .i64 2)))), (1, 1, (.con (.v (.int .i64 2))))], (some 25), none, [], none⟩,
  ⟨.build [(.v (.int .i64 0)), (.v (.int .i64 0))] [(0, 1, (.con (.v (.int .i64 1)))), (1, 1, (.con (.v (.int .i64 1))))], (some 26), none, [], none⟩,
  ⟨.build [(.v (.int .i64 0)), .nil0, (.v (.int .i64 0)), (.v (.int .i64 0)), (.v (.int .i64 0))] [(0, 1, (.con (.v (.int .i64 2)))), (1, 1, (.tmp 25)), (3, 2, (.tmp 26))], (some 27), none, [10, 11], none⟩,
  ⟨.bslice 1 1 [(.v (.int .i64 0))] [(0, 1, (.con (.v (.int .i64 1))))], (some 28), none, [], none⟩,
  ⟨.build [(.v (.int .i64 0)), (.v (.int .i64 0))] [(0, 1, (.con (.v (.int .i64 (-1))))), (1, 1, (.con (.v (.int .i64 1))))], (some 29), none, [], none⟩,
  ⟨.build [(.v (.int .i64 0)), .nil0, (.v (.int .i64 0)), (.v (.int .i64 0)), (.v (.int .i64 0))] [(0, 1, (.con (.v (.int .i64 3)))), (1, 1, (.tmp 28)), (3, 2, (.tmp 29))], (some 30), none, [13, 14], none⟩,
  ⟨.bslice 6 5 [(.v (.int .i64 0)), .nil0, (.v (.int .i64 0)), (.v (.int .i64 0)), (.v (.int .i64 0)), (.v (.int .i64 0)), .nil0, (.v (.int .i64 0)), (.v (.int .i64 0)), (.v (.int .i64 0)), (.v (.int .i64 0)), .nil0, (.v (.int .i64 0)), (.v (.int .i64 0)), (.v (.int .i64 0)), (.v (.int .i64 0)), .nil0, (.v (.int .i64 0)), (.v (.int .i64 0)), (.v (.int .i64 0)), (.v (.int .i64 0)), .nil0, (.v (.int .i64 0)), (.v (.int .i64 0)), (.v (.int .i64 0)), (.v (.int .i64 0)), .nil0, (.v (.int .i64 0)), (.v (.int .i64 0)), (.v (.int .i64 0))] [(0, 5, (.tmp 17)), (5, 5, (.tmp 18)), (10, 5, (.tmp 21)), (15, 5, (.tmp 24)), (20, 5, (.tmp 27)), (25, 5, (.tmp 30))], (some 31), none, [2, 3, 6, 9, 12, 15], none⟩,
  ⟨.mov (.tmp 31), (some 3), none, [16, 0, 1, 2, 3, 4, 5, 6, 7, 8, 9, 10, 11, 12, 13, 14, 15, 16], none⟩]
def d9r3 : List RO := [
  ⟨.load 4 true (.tmp 1), (some 32), none, [], none⟩,
  ⟨.load 3 true (.tmp 2), (some 33), none, [], none⟩,
  ⟨.call 11 [(.tmp 32), (.tmp 33)], (some 34), none, [0, 1], none⟩,
  ⟨.alloc [(.v (.int .i64 0)), .nil0], (some 4), none, [], none⟩,
  ⟨.store 2 (.tmp 4) (.tmp 34), none, none, [3, 2, 2, 0, 1, 2, 3], none⟩]
def d9r4 : List RO := [
  ⟨.load 4 true (.tmp 1), (some 36), none, [], none⟩,
  ⟨.load 3 true (.tmp 2), (some 37), none, [], none⟩,
  ⟨.build [(.v (.int .i64 0)), (.v (.int .i64 0)), (.v (.int .i64 0))] [(1, 1, (.con (.v (.int .i64 1)))), (2, 1, (.con (.v (.int .i64 1))))], (some 38), none, [], none⟩,
  ⟨.call 15 [(.tmp 36), (.tmp 37), (.tmp 38)], (some 39), none, [0, 1, 2], none⟩,
  ⟨.mov (.tmp 39), (some 35), none, [3], none⟩,
  ⟨.extract 0 (.tmp 35), (some 40), none, [4], none⟩,
  ⟨.extract 1 (.tmp 35), (some 41), none, [4], none⟩,
  ⟨.mov (.tmp 40), (some 5), none, [5, 3, 0, 1, 2, 3, 4, 5], none⟩,
  ⟨.mov (.tmp 41), (some 6), none, [6, 7, 0, 1, 2, 3, 4, 5, 6, 7], none⟩]
def d9r5 : List RO := [
  ⟨.load 4 true (.tmp 1), (some 43), none, [], none⟩,
  ⟨.load 3 true (.tmp 2), (some 44), none, [], none⟩,
  ⟨.call 16 [(.tmp 43), (.tmp 44), (.con (.v (.int .i64 1)))], (some 45), none, [0, 1], none⟩,
  ⟨.mov (.tmp 45), (some 42), none, [2], none⟩,
  ⟨.extract 0 (.tmp 42), (some 46), none, [3], none⟩,
  ⟨.extract 1 (.tmp 42), (some 47), none, [3], none⟩,
  ⟨.alloc [(.v (.int .i64 0)), (.v (.int .i64 0)), (.v (.int .i64 0))], (some 7), none, [], none⟩,
  ⟨.store 3 (.tmp 7) (.tmp 46), none, none, [6, 4, 2, 0, 1, 2, 3, 4, 6], none⟩,
  ⟨.mov (.tmp 47), (some 8), none, [5, 7, 0, 1, 2, 3, 4, 5, 6, 7], none⟩]
def d9r6 : List RO := [
  ⟨.load 4 true (.tmp 1), (some 49), none, [], none⟩,
  ⟨.load 3 true (.tmp 2), (some 50), none, [], none⟩,
  ⟨.call 16 [(.tmp 49), (.tmp 50), (.con (.v (.int .i64 3)))], (some 51), none, [0, 1], none⟩,
  ⟨.mov (.tmp 51), (some 48), none, [2], none⟩,
  ⟨.extract 0 (.tmp 48), (some 52), none, [3], none⟩,
  ⟨.extract 1 (.tmp 48), (some 53), none, [3], none⟩,
  ⟨.alloc [(.v (.int .i64 0)), (.v (.int .i64 0)), (.v (.int .i64 0))], (some 9), none, [], none⟩,
  ⟨.store 3 (.tmp 9) (.tmp 52), none, none, [6, 4, 2, 0, 1, 2, 3, 4, 6], none⟩,
  ⟨.mov (.tmp 53), (some 10), none, [5, 7, 0, 1, 2, 3, 4, 5, 6, 7], none⟩]
def d9r7 : List RO := [
  ⟨.load 4 true (.tmp 1), (some 54), none, [], none⟩,
  ⟨.load 3 true (.tmp 2), (some 55), none, [], none⟩,
  ⟨.call 17 [(.tmp 54), (.tmp 55)], (some 56), none, [0, 1], none⟩,
  ⟨.bin .eql (.tmp 56) (.con (.v (.int .i64 4))), (some 57), none, [2], none⟩,
  ⟨.mov (.tmp 57), (some 58), none, [3, 2], none⟩,
  ⟨.addOff 0 (.tmp 4), (some 59), (some (58, true)), [4], none⟩,
  ⟨.load 1 false (.tmp 59), (some 60), (some (58, true)), [5, 4], none⟩,
  ⟨.bin .eql (.tmp 60) (.con (.v (.int .i64 4))), (some 61), (some (58, true)), [6, 4], none⟩,
  ⟨.pick (.tmp 58) (.tmp 61) (.con (.v (.bool false))), (some 62), none, [4, 7], none⟩,
  ⟨.mov (.tmp 62), (some 63), none, [8, 4], none⟩,
  ⟨.addOff 1 (.tmp 4), (some 64), (some (63, true)), [9], none⟩,
  ⟨.load 1 false (.tmp 64), (some 65), (some (63, true)), [10, 9], none⟩,
  ⟨.mov (.tmp 3), (some 66), (some (63, true)), [9], none⟩,
  ⟨.call 13 [(.tmp 65), (.tmp 66)], (some 67), (some (63, true)), [11, 12, 9, 9], none⟩,
  ⟨.pick (.tmp 63) (.tmp 67) (.con (.v (.bool false))), (some 68), none, [9, 13], none⟩,
  ⟨.mov (.tmp 68), (some 69), none, [14, 13], none⟩,
  ⟨.mov (.tmp 6), (some 70), (some (69, true)), [15], none⟩,
  ⟨.pick (.tmp 69) (.tmp 70) (.con (.v (.bool false))), (some 71), none, [15, 16], none⟩,
  ⟨.mov (.tmp 71), (some 72), none, [17, 15], none⟩,
  ⟨.mov (.tmp 5), (some 73), (some (72, true)), [18], none⟩,
  ⟨.bin .eql (.tmp 73) (.con (.v (.int .i64 2))), (some 74), (some (72, true)), [19, 18], none⟩,
  ⟨.pick (.tmp 72) (.tmp 74) (.con (.v (.bool false))), (some 75), none, [18, 20], none⟩,
  ⟨.mov (.tmp 75), (some 76), none, [21, 18], none⟩,
  ⟨.mov (.tmp 8), (some 77), (some (76, true)), [22], none⟩,
  ⟨.pick (.tmp 76) (.tmp 77) (.con (.v (.bool false))), (some 78), none, [22, 23], none⟩,
  ⟨.mov (.tmp 78), (some 79), none, [24, 22], none⟩,
  ⟨.load 3 true (.tmp 7), (some 80), (some (79, true)), [25], none⟩,
  ⟨.build [(.v (.int .i64 0)), (.v (.int .i64 0)), (.v (.int .i64 0))] [(2, 1, (.con (.v (.int .i64 1))))], (some 81), (some (79, true)), [25], none⟩,
  ⟨.eqT false true [(.int .i64), (.int .i64), (.int .i64)] (.tmp 80) (.tmp 81), (some 82), (some (79, true)), [26, 27, 25], none⟩,
  ⟨.pick (.tmp 79) (.tmp 82) (.con (.v (.bool false))), (some 83), none, [25, 28], none⟩,
  ⟨.mov (.tmp 83), (some 84), none, [29, 25], none⟩,
  ⟨.mov (.tmp 10), (some 85), (some (84, true)), [30], none⟩,
  ⟨.un .not (.tmp 85), (some 86), (some (84, true)), [31, 30], none⟩,
  ⟨.pick (.tmp 84) (.tmp 86) (.con (.v (.bool false))), (some 87), none, [30, 32], none⟩,
  ⟨.mov (.tmp 87), (some 0), none, [33, 30, 0, 1, 2, 3, 4, 5, 6, 7, 8, 9, 10, 11, 12, 13, 14, 15, 16, 17, 18, 19, 20, 21, 22, 23, 24, 25, 26, 27, 28, 29, 30, 31, 32, 33], none⟩]
def d9 : DC := (.seq (.region false d9r0)
  (.seq (.region false d9r1)
  (.seq (.region false d9r2)
  (.seq (.region false d9r3)
  (.seq (.region false d9r4)
  (.seq (.region false d9r5)
  (.seq (.region false d9r6)
  (.seq (.region false d9r7)
  .ret))))))))
def d9res : List DRes := [.slot 0]
theorem c9 [Laid] : CodeOf Try.prog 9 88 d9 d9res := ⟨Try.f9, by kernel_rfl, by kernel_rfl, by kernel_rfl, by kernel_rfl, by kernel_rfl⟩
-- emendate/emendatelaw39.ItemsNumbering
def d4r0 : List RO := [
  ⟨.box (.tmp 0), (some 2), none, [], none⟩,
  ⟨.box (.tmp 1), (some 3), none, [], none⟩,
  ⟨.mov (.con (.v (.bool false))), (some 4), none, [], none⟩]
def d4r1 : List RO := [
  ⟨.call 9 [], (some 16), none, [], none⟩,
  ⟨.un .not (.tmp 16), (some 17), none, [0], none⟩]
def d4r2 : List RO := [
  ⟨.mov (.con (.v (.bool false))), (some 4), none, [], none⟩]
def d4r3 : List RO := [
  ⟨.load 4 true (.tmp 2), (some 18), none, [], none⟩,
  ⟨.load 3 true (.tmp 3), (some 19), none, [], none⟩,
  ⟨.call 10 [(.tmp 18), (.tmp 19)], (some 20), none, [0, 1], none⟩,
  ⟨.un .not (.tmp 20), (some 21), none, [2], none⟩]
def d4r4 : List RO := [
  ⟨.mov (.con (.v (.bool true))), (some 4), none, [], none⟩]
def d4r5 : List RO := [
  ⟨.mov (.con (.v (.int .i64 0))), (some 5), none, [], none⟩]
def d4r6 : List RO := [
  ⟨.mov (.con (.v (.int .i64 0))), (some 6), none, [], none⟩]
def d4r7 : List RO := [
  ⟨.mov (.tmp 6), (some 22), none, [], none⟩,
  ⟨.addOff 0 (.tmp 3), (some 23), none, [], none⟩,
  ⟨.load 1 false (.tmp 23), (some 24), none, [1], none⟩,
  ⟨.bin .lss (.tmp 22) (.tmp 24), (some 25), none, [0, 2], none⟩]
def d4r8 : List RO := [
  ⟨.mov (.tmp 6), (some 28), none, [], none⟩,
  ⟨.mov (.tmp 28), (some 7), none, [0, 0], none⟩]
def d4r9 : List RO := [
  ⟨.mov (.tmp 7), (some 29), none, [], none⟩,
  ⟨.addOff 0 (.tmp 3), (some 30), none, [], none⟩,
  ⟨.load 1 false (.tmp 30), (some 31), none, [1], none⟩,
  ⟨.bin .lss (.tmp 29) (.tmp 31), (some 32), none, [0, 2], none⟩]
def d4r10 : List RO := [
  ⟨.mov (.con (.v (.int .i64 0))), (some 8), none, [], none⟩]
def d4r11 : List RO := [
  ⟨.mov (.tmp 8), (some 35), none, [], none⟩,
  ⟨.addOff 1 (.tmp 2), (some 36), none, [], none⟩,
  ⟨.load 1 false (.tmp 36), (some 37), none, [1], none⟩,
  ⟨.bin .lss (.tmp 35) (.tmp 37), (some 38), none, [0, 2], none⟩]
def d4r12 : List RO := [
  ⟨.mov (.tmp 8), (some 41), none, [], none⟩,
  ⟨.mov (.tmp 6), (some 42), none, [], none⟩,
  ⟨.mov (.tmp 7), (some 43), none, [], none⟩,
  ⟨.build [(.v (.int .i64 0)), (.v (.int .i64 0)), (.v (.int .i64 0))] [(0, 1, (.tmp 41)), (1, 1, (.tmp 42)), (2, 1, (.tmp 43))], (some 44), none, [0, 1, 2], none⟩,
  ⟨.alloc [(.v (.int .i64 0)), (.v (.int .i64 0)), (.v (.int .i64 0))], (some 9), none, [], none⟩,
  ⟨.store 3 (.tmp 9) (.tmp 44), none, none, [4, 3, 0, 1, 2, 3, 4], none⟩]
def d4r13 : List RO := [
  ⟨.load 4 true (.tmp 2), (some 46), none, [], none⟩,
  ⟨.load 3 true (.tmp 3), (some 47), none, [], none⟩,
  ⟨.load 3 true (.tmp 9), (some 48), none, [], none⟩,
  ⟨.call 15 [(.tmp 46), (.tmp 47), (.tmp 48)], (some 49), none, [0, 1, 2], none⟩,
  ⟨.mov (.tmp 49), (some 45), none, [3], none⟩,
  ⟨.extract 0 (.tmp 45), (some 50), none, [4], none⟩,
  ⟨.extract 1 (.tmp 45), (some 51), none, [4], none⟩,
  ⟨.mov (.tmp 50), (some 10), none, [5, 3, 0, 1, 2, 3, 4, 5], none⟩,
  ⟨.mov (.tmp 51), (some 11), none, [6, 7, 0, 1, 2, 3, 4, 5, 6, 7], none⟩]
def d4r14 : List RO := [
  ⟨.load 4 true (.tmp 2), (some 53), none, [], none⟩,
  ⟨.load 3 true (.tmp 3), (some 54), none, [], none⟩,
  ⟨.mov (.tmp 5), (some 55), none, [], none⟩,
  ⟨.call 16 [(.tmp 53), (.tmp 54), (.tmp 55)], (some 56), none, [0, 1, 2], none⟩,
  ⟨.mov (.tmp 56), (some 52), none, [3], none⟩,
  ⟨.extract 0 (.tmp 52), (some 57), none, [4], none⟩,
  ⟨.extract 1 (.tmp 52), (some 58), none, [4], none⟩,
  ⟨.alloc [(.v (.int .i64 0)), (.v (.int .i64 0)), (.v (.int .i64 0))], (some 12), none, [], none⟩,
  ⟨.store 3 (.tmp 12) (.tmp 57), none, none, [7, 5, 3, 0, 1, 2, 3, 4, 5, 7], none⟩,
  ⟨.mov (.tmp 58), (some 13), none, [6, 8, 0, 1, 2, 3, 4, 5, 6, 7, 8], none⟩]
def d4r15 : List RO := [
  ⟨.mov (.tmp 11), (some 59), none, [], none⟩,
  ⟨.un .not (.tmp 59), (some 60), none, [0], none⟩,
  ⟨.mov (.tmp 60), (some 61), none, [1], none⟩,
  ⟨.mov (.tmp 10), (some 62), (some (61, false)), [2], none⟩,
  ⟨.mov (.tmp 5), (some 63), (some (61, false)), [2], none⟩,
  ⟨.bin .neq (.tmp 62) (.tmp 63), (some 64), (some (61, false)), [3, 4, 2], none⟩,
  ⟨.pick (.tmp 61) (.con (.v (.bool true))) (.tmp 64), (some 65), none, [2, 5], none⟩,
  ⟨.mov (.tmp 65), (some 66), none, [6, 2], none⟩,
  ⟨.mov (.tmp 13), (some 67), (some (66, false)), [7], none⟩,
  ⟨.un .not (.tmp 67), (some 68), (some (66, false)), [8, 7], none⟩,
  ⟨.pick (.tmp 66) (.con (.v (.bool true))) (.tmp 68), (some 69), none, [7, 9], none⟩,
  ⟨.mov (.tmp 69), (some 70), none, [10, 7], none⟩,
  ⟨.load 3 true (.tmp 12), (some 71), (some (70, false)), [11], none⟩,
  ⟨.load 3 true (.tmp 9), (some 72), (some (70, false)), [11], none⟩,
  ⟨.eqT true true [(.int .i64), (.int .i64), (.int .i64)] (.tmp 71) (.tmp 72), (some 73), (some (70, false)), [12, 13, 11], none⟩,
  ⟨.pick (.tmp 70) (.con (.v (.bool true))) (.tmp 73), (some 74), none, [11, 14], none⟩]
def d4r16 : List RO := [
  ⟨.mov (.con (.v (.bool false))), (some 4), none, [], none⟩]
def d4r17 : List RO := [
  ⟨.mov (.tmp 5), (some 75), none, [], none⟩,
  ⟨.bin .add (.tmp 75) (.con (.v (.int .i64 1))), (some 76), none, [0], none⟩,
  ⟨.mov (.tmp 76), (some 5), none, [1, 0, 1], none⟩]
def d4r18 : List RO := [
  ⟨.mov (.tmp 8), (some 39), none, [], none⟩,
  ⟨.bin .add (.tmp 39) (.con (.v (.int .i64 1))), (some 40), none, [0], none⟩,
  ⟨.mov (.tmp 40), (some 8), none, [1, 0, 1], none⟩]
def d4r19 : List RO := [
  ⟨.mov (.tmp 7), (some 33), none, [], none⟩,
  ⟨.bin .add (.tmp 33) (.con (.v (.int .i64 1))), (some 34), none, [0], none⟩,
  ⟨.mov (.tmp 34), (some 7), none, [1, 0, 1], none⟩]
def d4r20 : List RO := [
  ⟨.mov (.tmp 6), (some 26), none, [], none⟩,
  ⟨.bin .add (.tmp 26) (.con (.v (.int .i64 1))), (some 27), none, [0], none⟩,
  ⟨.mov (.tmp 27), (some 6), none, [1, 0, 1], none⟩]
def d4r21 : List RO := [
  ⟨.load 4 true (.tmp 2), (some 78), none, [], none⟩,
  ⟨.load 3 true (.tmp 3), (some 79), none, [], none⟩,
  ⟨.mov (.tmp 5), (some 80), none, [], none⟩,
  ⟨.call 16 [(.tmp 78), (.tmp 79), (.tmp 80)], (some 81), none, [0, 1, 2], none⟩,
  ⟨.mov (.tmp 81), (some 77), none, [3], none⟩,
  ⟨.extract 0 (.tmp 77), (some 82), none, [4], none⟩,
  ⟨.extract 1 (.tmp 77), (some 83), none, [4], none⟩,
  ⟨.alloc [(.v (.int .i64 0)), (.v (.int .i64 0)), (.v (.int .i64 0))], (some 14), none, [], none⟩,
  ⟨.store 3 (.tmp 14) (.tmp 82), none, none, [7, 5, 3, 0, 1, 2, 3, 4, 5, 7], none⟩,
  ⟨.mov (.tmp 83), (some 15), none, [6, 8, 0, 1, 2, 3, 4, 5, 6, 7, 8], none⟩]
def d4r22 : List RO := [
  ⟨.load 4 true (.tmp 2), (some 84), none, [], none⟩,
  ⟨.load 3 true (.tmp 3), (some 85), none, [], none⟩,
  ⟨.call 17 [(.tmp 84), (.tmp 85)], (some 86), none, [0, 1], none⟩,
  ⟨.mov (.tmp 5), (some 87), none, [], none⟩,
  ⟨.bin .add (.tmp 87) (.con (.v (.int .i64 1))), (some 88), none, [3], none⟩,
  ⟨.bin .eql (.tmp 86) (.tmp 88), (some 89), none, [2, 4], none⟩,
  ⟨.mov (.tmp 89), (some 90), none, [5, 2], none⟩,
  ⟨.mov (.tmp 15), (some 91), (some (90, true)), [6], none⟩,
  ⟨.un .not (.tmp 91), (some 92), (some (90, true)), [7, 6], none⟩,
  ⟨.pick (.tmp 90) (.tmp 92) (.con (.v (.bool false))), (some 93), none, [6, 8], none⟩,
  ⟨.mov (.tmp 93), (some 94), none, [9, 6], none⟩,
  ⟨.load 3 true (.tmp 14), (some 95), (some (94, true)), [10], none⟩,
  ⟨.build [(.v (.int .i64 0)), (.v (.int .i64 0)), (.v (.int .i64 0))] [], (some 96), (some (94, true)), [10], none⟩,
  ⟨.eqT false true [(.int .i64), (.int .i64), (.int .i64)] (.tmp 95) (.tmp 96), (some 97), (some (94, true)), [11, 12, 10], none⟩,
  ⟨.pick (.tmp 94) (.tmp 97) (.con (.v (.bool false))), (some 98), none, [10, 13], none⟩,
  ⟨.mov (.tmp 98), (some 4), none, [14, 10, 0, 1, 2, 3, 4, 5, 6, 7, 8, 9, 10, 11, 12, 13, 14], none⟩]
def d4 : DC := (.seq (.region false d4r0)
  (.seq (.seq (.region false d4r1)
  (.cond (.tmp 17) (.seq (.region false d4r2)
  .ret)
  .skip))
  (.seq (.seq (.region false d4r3)
  (.cond (.tmp 21) (.seq (.region false d4r4)
  .ret)
  .skip))
  (.seq (.region false d4r5)
  (.seq (.seq (.region false d4r6)
  (.block 0 (.loop (.seq (.seq (.region false d4r7)
  (.cond (.tmp 25) .skip
  (.exit 0)))
  (.seq (.block 1 (.seq (.region false d4r8)
  (.block 2 (.loop (.seq (.seq (.region false d4r9)
  (.cond (.tmp 32) .skip
  (.exit 2)))
  (.seq (.block 3 (.seq (.region false d4r10)
  (.block 4 (.loop (.seq (.seq (.region false d4r11)
  (.cond (.tmp 38) .skip
  (.exit 4)))
  (.seq (.block 5 (.seq (.region false d4r12)
  (.seq (.region false d4r13)
  (.seq (.region false d4r14)
  (.seq (.seq (.region false d4r15)
  (.cond (.tmp 74) (.seq (.region false d4r16)
  .ret)
  .skip))
  (.region false d4r17))))))
  (.region false d4r18)))))))
  (.region false d4r19)))))))
  (.region false d4r20))))))
  (.seq (.region false d4r21)
  (.seq (.region false d4r22)
  .ret)))))))
def d4res : List DRes := [.slot 4]
theorem c4 [Laid] : CodeOf Try.prog 4 99 d4 d4res := ⟨Try.f4, by kernel_rfl, by kernel_rfl, by kernel_rfl, by kernel_rfl, by kernel_rfl⟩
-- emendate/emendatelaw39.ItemsInvalid
def d5r0 : List RO := [
  ⟨.box (.tmp 0), (some 3), none, [], none⟩,
  ⟨.box (.tmp 1), (some 4), none, [], none⟩,
  ⟨.box (.tmp 2), (some 5), none, [], none⟩,
  ⟨.mov (.con (.v (.bool false))), (some 6), none, [], none⟩]
def d5r1 : List RO := [
  ⟨.call 9 [], (some 15), none, [], none⟩,
  ⟨.un .not (.tmp 15), (some 16), none, [0], none⟩]
def d5r2 : List RO := [
  ⟨.mov (.con (.v (.bool false))), (some 6), none, [], none⟩]
def d5r3 : List RO := [
  ⟨.load 4 true (.tmp 3), (some 17), none, [], none⟩,
  ⟨.load 3 true (.tmp 4), (some 18), none, [], none⟩,
  ⟨.call 10 [(.tmp 17), (.tmp 18)], (some 19), none, [0, 1], none⟩,
  ⟨.un .not (.tmp 19), (some 20), none, [2], none⟩]
def d5r4 : List RO := [
  ⟨.mov (.con (.v (.bool true))), (some 6), none, [], none⟩]
def d5r5 : List RO := [
  ⟨.load 4 true (.tmp 3), (some 22), none, [], none⟩,
  ⟨.load 3 true (.tmp 4), (some 23), none, [], none⟩,
  ⟨.load 3 true (.tmp 5), (some 24), none, [], none⟩,
  ⟨.call 15 [(.tmp 22), (.tmp 23), (.tmp 24)], (some 25), none, [0, 1, 2], none⟩,
  ⟨.mov (.tmp 25), (some 21), none, [3], none⟩,
  ⟨.extract 0 (.tmp 21), (some 26), none, [4], none⟩,
  ⟨.extract 1 (.tmp 21), (some 27), none, [4], none⟩,
  ⟨.mov (.tmp 26), (some 7), none, [5, 3, 0, 1, 2, 3, 4, 5], none⟩,
  ⟨.mov (.tmp 27), (some 8), none, [6, 7, 0, 1, 2, 3, 4, 5, 6, 7], none⟩]
def d5r6 : List RO := [
  ⟨.load 4 true (.tmp 3), (some 29), none, [], none⟩,
  ⟨.load 3 true (.tmp 4), (some 30), none, [], none⟩,
  ⟨.load 3 true (.tmp 5), (some 31), none, [], none⟩,
  ⟨.call 18 [(.tmp 29), (.tmp 30), (.tmp 31)], (some 32), none, [0, 1, 2], none⟩,
  ⟨.mov (.tmp 32), (some 28), none, [3], none⟩,
  ⟨.extract 0 (.tmp 28), (some 33), none, [4], none⟩,
  ⟨.extract 1 (.tmp 28), (some 34), none, [4], none⟩,
  ⟨.mov (.tmp 33), (some 9), none, [5, 3, 0, 1, 2, 3, 4, 5], none⟩,
  ⟨.mov (.tmp 34), (some 10), none, [6, 7, 0, 1, 2, 3, 4, 5, 6, 7], none⟩]
def d5r7 : List RO := [
  ⟨.load 4 true (.tmp 3), (some 36), none, [], none⟩,
  ⟨.load 3 true (.tmp 4), (some 37), none, [], none⟩,
  ⟨.addOff 1 (.tmp 5), (some 38), none, [], none⟩,
  ⟨.load 1 false (.tmp 38), (some 39), none, [2], none⟩,
  ⟨.call 16 [(.tmp 36), (.tmp 37), (.tmp 39)], (some 40), none, [0, 1, 3], none⟩,
  ⟨.mov (.tmp 40), (some 35), none, [4], none⟩,
  ⟨.extract 0 (.tmp 35), (some 41), none, [5], none⟩,
  ⟨.extract 1 (.tmp 35), (some 42), none, [5], none⟩,
  ⟨.alloc [(.v (.int .i64 0)), (.v (.int .i64 0)), (.v (.int .i64 0))], (some 11), none, [], none⟩,
  ⟨.store 3 (.tmp 11) (.tmp 41), none, none, [8, 6, 4, 0, 1, 2, 3, 4, 5, 6, 8], none⟩,
  ⟨.mov (.tmp 42), (some 12), none, [7, 9, 0, 1, 2, 3, 4, 5, 6, 7, 8, 9], none⟩]
def d5r8 : List RO := [
  ⟨.load 4 true (.tmp 3), (some 44), none, [], none⟩,
  ⟨.load 3 true (.tmp 4), (some 45), none, [], none⟩,
  ⟨.addOff 1 (.tmp 5), (some 46), none, [], none⟩,
  ⟨.load 1 false (.tmp 46), (some 47), none, [2], none⟩,
  ⟨.call 19 [(.tmp 44), (.tmp 45), (.tmp 47)], (some 48), none, [0, 1, 3], none⟩,
  ⟨.mov (.tmp 48), (some 43), none, [4], none⟩,
  ⟨.extract 0 (.tmp 43), (some 49), none, [5], none⟩,
  ⟨.extract 1 (.tmp 43), (some 50), none, [5], none⟩,
  ⟨.alloc [(.v (.int .i64 0)), (.v (.int .i64 0)), (.v (.int .i64 0))], (some 13), none, [], none⟩,
  ⟨.store 3 (.tmp 13) (.tmp 49), none, none, [8, 6, 4, 0, 1, 2, 3, 4, 5, 6, 8], none⟩,
  ⟨.mov (.tmp 50), (some 14), none, [7, 9, 0, 1, 2, 3, 4, 5, 6, 7, 8, 9], none⟩]
def d5r9 : List RO := [
  ⟨.mov (.tmp 7), (some 51), none, [], none⟩,
  ⟨.mov (.tmp 9), (some 52), none, [], none⟩,
  ⟨.bin .eql (.tmp 51) (.tmp 52), (some 53), none, [0, 1], none⟩,
  ⟨.mov (.tmp 53), (some 54), none, [2], none⟩,
  ⟨.mov (.tmp 8), (some 55), (some (54, true)), [3], none⟩,
  ⟨.mov (.tmp 10), (some 56), (some (54, true)), [3], none⟩,
  ⟨.eqT false false [.bool] (.tmp 55) (.tmp 56), (some 57), (some (54, true)), [4, 5, 3], none⟩,
  ⟨.pick (.tmp 54) (.tmp 57) (.con (.v (.bool false))), (some 58), none, [3, 6], none⟩,
  ⟨.mov (.tmp 58), (some 59), none, [7, 3], none⟩,
  ⟨.load 3 true (.tmp 11), (some 60), (some (59, true)), [8], none⟩,
  ⟨.load 3 true (.tmp 13), (some 61), (some (59, true)), [8], none⟩,
  ⟨.eqT false true [(.int .i64), (.int .i64), (.int .i64)] (.tmp 60) (.tmp 61), (some 62), (some (59, true)), [9, 10, 8], none⟩,
  ⟨.pick (.tmp 59) (.tmp 62) (.con (.v (.bool false))), (some 63), none, [8, 11], none⟩,
  ⟨.mov (.tmp 63), (some 64), none, [12, 8], none⟩,
  ⟨.mov (.tmp 12), (some 65), (some (64, true)), [13], none⟩,
  ⟨.mov (.tmp 14), (some 66), (some (64, true)), [13], none⟩,
  ⟨.eqT false false [.bool] (.tmp 65) (.tmp 66), (some 67), (some (64, true)), [14, 15, 13], none⟩,
  ⟨.pick (.tmp 64) (.tmp 67) (.con (.v (.bool false))), (some 68), none, [13, 16], none⟩,
  ⟨.mov (.tmp 68), (some 6), none, [17, 13, 0, 1, 2, 3, 4, 5, 6, 7, 8, 9, 10, 11, 12, 13, 14, 15, 16, 17], none⟩]
def d5 : DC := (.seq (.region false d5r0)
  (.seq (.seq (.region false d5r1)
  (.cond (.tmp 16) (.seq (.region false d5r2)
  .ret)
  .skip))
  (.seq (.seq (.region false d5r3)
  (.cond (.tmp 20) (.seq (.region false d5r4)
  .ret)
  .skip))
  (.seq (.region false d5r5)
  (.seq (.region false d5r6)
  (.seq (.region false d5r7)
  (.seq (.region false d5r8)
  (.seq (.region false d5r9)
  .ret))))))))
def d5res : List DRes := [.slot 6]
theorem c5 [Laid] : CodeOf Try.prog 5 69 d5 d5res := ⟨Try.f5, by kernel_rfl, by kernel_rfl, by kernel_rfl, by kernel_rfl, by kernel_rfl⟩

theorem follows : Try.prog.follows .mixedOrders = true := by kernel_rfl

end Go.Proofs
namespace Go.Proofs
open Go.DM
set_option linter.unusedSimpArgs false
set_option linter.unusedVariables false

abbrev ti (n : Int) : T := .int .i64 n
structure Rule where
  (kind head a b price origin : Int)
structure Normal where
  (terms nonterms start : Int)
  rules : List Rule
structure Arc where
  (f t term cost : Int)
  ops : List (Int × Int)
structure Lattice where
  states : Int
  arcs : List Arc
  final : List Int
structure Edge where
  head : Int
  tails : List Int
  (cost l0 l1 : Int)
  deriving DecidableEq
def Rule.enc (r : Rule) : List T := [ti r.kind, ti r.head, ti r.a, ti r.b, ti r.price, ti r.origin]
def rulesT (l : List Rule) : List (List T) := l.map Rule.enc
def Normal.enc (n : Normal) : T := .agg [ti n.terms, ti n.nonterms, ti n.start, .sl (rulesT n.rules)]
def opsT (l : List (Int × Int)) : List (List T) := l.map fun o => [ti o.1, ti o.2]
def Arc.enc (a : Arc) : List T := [ti a.f, ti a.t, ti a.term, ti a.cost, .sl (opsT a.ops)]
def arcsT (l : List Arc) : List (List T) := l.map Arc.enc
def intsT (l : List Int) : List (List T) := l.map fun x => [ti x]
def Lattice.enc (l : Lattice) : T := .agg [ti l.states, .sl (arcsT l.arcs), .sl (intsT l.final)]
def Edge.enc (e : Edge) : List T := [ti e.head, .sl (intsT e.tails), ti e.cost, ti e.l0, ti e.l1]
def edgesT (l : List Edge) : List (List T) := l.map Edge.enc

theorem t32 {Γ : Env} (hΓ : EnvOk Try.prog Γ) (n : Normal) (l : Lattice) : CallsOk Try.prog 32 [n.enc, l.enc] (.agg [ti n.nonterms, ti l.states]) := by
  refine c32.ok (by simp) (initSt_sat ?_)
  simp [Normal.enc, Lattice.enc]
  refine SatD.regSeq hΓ follows [2, 3, 4] ?_
  simp [d32r0]
  refine SatD.regSeq hΓ follows [4] ?_
  simp [d32r1]
  refine SatD.ret ?_
  simp [d32res]

/-- How many spans begin ahead of state n. -/
def pre (st : Int) : Nat → Int
  | 0 => 0
  | n + 1 => pre st n + st - n
theorem pre_bound {st : Int} (h : st ≤ 1000) : ∀ n : Nat, (n : Int) ≤ st → 0 ≤ pre st n ∧ pre st n ≤ 1000 * n
  | 0, _ => by simp [pre]
  | n + 1, hn => by
    have := pre_bound h n (by omega)
    simp only [pre]
    omega

theorem t40 {Γ : Env} (hΓ : EnvOk Try.prog Γ) (n : Normal) (l : Lattice) (f t : Int) (h1 : l.states ≤ 1000) (h2 : 0 ≤ f) (h3 : f ≤ t) (h4 : t < l.states) (h5 : 0 ≤ n.nonterms) (h6 : n.nonterms ≤ 1000) :
    CallsOk Try.prog 40 [n.enc, l.enc, ti f, ti t] (ti ((pre l.states f.toNat + t - f) * n.nonterms)) := by
  refine c40.ok (by simp) (initSt_sat ?_)
  simp [Normal.enc, Lattice.enc]
  refine SatD.regSeq hΓ follows [2, 3, 4, 5, 8] ?_
  simp [d40r0]
  refine SatD.regSeq hΓ follows [2, 3, 4, 5, 9] ?_
  simp [d40r1]
  refine SatD.seq ?_
  refine SatD.regSeq hΓ follows [2, 3, 4, 5, 9, 10] ?_
  simp [d40r2]
  refine SatD.block ?_ -- 0
  refine SatD.loop (fun y : Nat => ⟨DM.look [(2, .v (ti f)), (3, .v (ti t)), (4, .ptr 1005 0), (5, .ptr 1006 0), (9, .v (ti (pre l.states y))), (10, .v (ti y))], obs [(1006, .box [.v (ti l.states), .v (.sl (arcsT l.arcs)), .v (.sl (intsT l.final))]), (1005, .box [.v (ti n.terms), .v (ti n.nonterms), .v (ti n.start), .v (.sl (rulesT n.rules))])], 2000, 1000, []⟩)
    (fun y => (y : Int) ≤ f) (fun y => f.toNat - y) 0 (Le.keep ?_ ?_ ?_ ?_) (by simpa using h2) (fun y hy => ?_)
  · simp
  · simp
  · simp
  · simp [pre]
  have hb := pre_bound h1 y (by omega)
  refine SatD.seq ?_
  refine SatD.seq ?_
  refine SatD.reg hΓ follows [2, 3, 4, 5, 9, 10, 13] ?_
  simp [d40r3]
  refine SatD.cond (by simp; rfl) (fun h => ?_) (fun h => ?_)
  · refine SatD.skip ?_
    simp at h
    simp
    refine SatD.seq ?_
    refine SatD.block ?_ -- 1
    refine SatD.reg hΓ follows [2, 3, 4, 5, 9, 10] ?_
    simp [d40r4]
    refine SatD.reg hΓ follows [2, 3, 4, 5, 9, 10] ?_
    simp [d40r5]
    refine ⟨y + 1, Le.keep ?_ ?_ ?_ ?_, ?_, ?_⟩
    · simp
    · simp
    · simp
    · simp [pre]
      simp (disch := omega) only [wrap_id]
      exact ⟨trivial, trivial⟩
    · omega
    · omega
  · refine SatD.exit ?_
    simp at h
    simp
    have hyf : (y : Int) = f := by omega
    refine SatD.regSeq hΓ follows [8] ?_
    simp [d40r6]
    refine SatD.ret ?_
    simp [d40res]
    have hy2 : f.toNat = y := by omega
    have hm : 0 ≤ (pre l.states y + t - f) * n.nonterms ∧ (pre l.states y + t - f) * n.nonterms ≤ 2000000 * 1000 := by
      have h7 : 0 ≤ pre l.states y + t - f := by omega
      have h8 : pre l.states y + t - f ≤ 2000000 := by omega
      exact ⟨Int.mul_nonneg h7 h5, Int.mul_le_mul h8 h6 h5 (by omega)⟩
    rw [hy2]
    simp (disch := omega) only [wrap_id]
end Go.Proofs
namespace Go.Proofs
open Go.DM
set_option linter.unusedSimpArgs false
set_option linter.unusedVariables false

def fn32 : List T → T
  | [.agg [_, nt, _, _], .agg [st, _, _]] => .agg [nt, st]
  | _ => .bool false
def pre32 (ts : List T) : Prop := ∃ (n : Normal) (l : Lattice), ts = [n.enc, l.enc]
def spec32 : DM.Spec := specP pre32 fn32 true
/-- Numbers of nonterminals and states that are small enough. -/
def sm (nt st : Int) : Prop := 0 ≤ nt ∧ nt ≤ 1000 ∧ 0 ≤ st ∧ st ≤ 1000
def goalI (nt st : Int) : Int := nt * st * (st + 1) / 2
def idxI (nt st h f t : Int) : Int := (f * st - f * (f - 1) / 2 + t - f) * nt + h
def fn33 : List T → T
  | [.agg [.int _ nt, .int _ st]] => ti (goalI nt st)
  | _ => .bool false
def pre33 : List T → Prop
  | [.agg [.int .i64 nt, .int .i64 st]] => sm nt st
  | _ => False
def spec33 : DM.Spec := specP pre33 fn33 true
def fn37 : List T → T
  | [.agg [.int _ nt, .int _ st], .int _ h, .int _ f, .int _ t] => ti (idxI nt st h f t)
  | _ => .bool false
def pre37 : List T → Prop
  | [.agg [.int .i64 nt, .int .i64 st], .int .i64 h, .int .i64 f, .int .i64 t] => sm nt st ∧ 0 ≤ h ∧ h ≤ 1000 ∧ 0 ≤ f ∧ f ≤ 1000 ∧ 0 ≤ t ∧ t ≤ 1000
  | _ => False
def spec37 : DM.Spec := specP pre37 fn37 true

theorem mul_bound {a b m n : Int} (h1 : 0 ≤ a) (h2 : a ≤ m) (h3 : 0 ≤ b) (h4 : b ≤ n) : 0 ≤ a * b ∧ a * b ≤ m * n :=
  ⟨Int.mul_nonneg h1 h3, Int.mul_le_mul h2 h4 h3 (by omega)⟩

theorem t33 {Γ : Env} (hΓ : EnvOk Try.prog Γ) (nt st : Int) (h : sm nt st) : CallsOk Try.prog 33 [.agg [ti nt, ti st]] (ti (goalI nt st)) := by
  obtain ⟨h1, h2, h3, h4⟩ := h
  have b1 := mul_bound h1 h2 h3 h4
  have b2 := mul_bound b1.1 b1.2 (b := st + 1) (n := 1001) (by omega) (by omega)
  refine c33.ok (by simp) (initSt_sat ?_)
  simp
  refine SatD.regSeq hΓ follows [1] ?_
  simp [d33r0]
  refine SatD.regSeq hΓ follows [2] ?_
  simp [d33r1]
  refine SatD.ret ?_
  simp [d33res, goalI]
  simp (disch := omega) only [wrap_id]
  rw [Int.tdiv_eq_ediv_of_nonneg b2.1, wrap_id (by omega)]

theorem t37 {Γ : Env} (hΓ : EnvOk Try.prog Γ) (nt st hd f t : Int) (h : sm nt st) (k : 0 ≤ hd ∧ hd ≤ 1000 ∧ 0 ≤ f ∧ f ≤ 1000 ∧ 0 ≤ t ∧ t ≤ 1000) : CallsOk Try.prog 37 [.agg [ti nt, ti st], ti hd, ti f, ti t] (ti (idxI nt st hd f t)) := by
  obtain ⟨h1, h2, h3, h4⟩ := h
  obtain ⟨k1, k2, k3, k4, k5, k6⟩ := k
  have b1 := mul_bound k3 k4 h3 h4
  have b2 : 0 ≤ f * (f - 1) ∧ f * (f - 1) ≤ 1000000 := by
    by_cases hf : f = 0
    · subst hf; simp
    · have := mul_bound k3 k4 (b := f - 1) (n := 1000) (by omega) (by omega)
      omega
  have b3 : -10000000 * 1000 ≤ (f * st - f * (f - 1) / 2 + t - f) * nt ∧ (f * st - f * (f - 1) / 2 + t - f) * nt ≤ 20000000 * 1000 := by
    have e1 : -10000000 ≤ f * st - f * (f - 1) / 2 + t - f ∧ f * st - f * (f - 1) / 2 + t - f ≤ 10000000 := by omega
    generalize f * st - f * (f - 1) / 2 + t - f = x at e1
    have g1 := mul_bound (a := x + 10000000) (m := 20000000) (b := nt) (n := 1000) (by omega) (by omega) h1 h2
    have g2 : (x + 10000000) * nt = x * nt + 10000000 * nt := Int.add_mul ..
    omega
  refine c37.ok (by simp) (initSt_sat ?_)
  simp
  refine SatD.regSeq hΓ follows [1, 2, 3, 4] ?_
  simp [d37r0]
  refine SatD.regSeq hΓ follows [1, 2, 3, 4, 9] ?_
  simp [d37r1]
  refine SatD.regSeq hΓ follows [8] ?_
  simp [d37r2]
  refine SatD.ret ?_
  simp [d37res, idxI]
  simp (disch := omega) only [wrap_id]
  rw [Int.tdiv_eq_ediv_of_nonneg b2.1]
  simp (disch := omega) only [wrap_id]

def Γ1 : Env := envOf [(32, spec32), (33, spec33), (37, spec37)]
theorem ok1 : EnvOk Try.prog Γ1 := by
  refine EnvOk.cons (EnvOk.cons (EnvOk.cons EnvOk.nil ?_) ?_) ?_
  · intro ts h
    match ts, h with
    | [.agg [.int .i64 nt, .int .i64 st], .int .i64 h, .int .i64 f, .int .i64 t], h1 => exact ⟨t37 EnvOk.nil nt st h f t h1.1 h1.2, fun _ => rfl⟩
  · intro ts h
    match ts, h with
    | [.agg [.int .i64 nt, .int .i64 st]], h1 => exact ⟨t33 EnvOk.nil nt st h1, fun _ => rfl⟩
  · rintro ts ⟨n, l, rfl⟩
    exact ⟨t32 EnvOk.nil n l, fun _ => rfl⟩

theorem t17 (n : Normal) (l : Lattice) (h : sm n.nonterms l.states) : CallsOk Try.prog 17 [n.enc, l.enc] (ti (goalI n.nonterms l.states + 1)) := by
  have hΓ := ok1
  have b : 0 ≤ goalI n.nonterms l.states ∧ goalI n.nonterms l.states ≤ 1001000000 := by
    obtain ⟨h1, h2, h3, h4⟩ := h
    have b1 := mul_bound h1 h2 h3 h4
    have b2 := mul_bound b1.1 b1.2 (b := l.states + 1) (n := 1001) (by omega) (by omega)
    unfold goalI
    omega
  refine c17.ok (by simp) (initSt_sat ?_)
  simp [Normal.enc, Lattice.enc]
  refine SatD.regSeq hΓ follows [2, 3] ?_
  simp [d17r0]
  refine SatD.regSeq hΓ follows [4] ?_
  simp [d17r1, Γ1, spec32, spec33, fn32, fn33, pre33]
  refine ⟨⟨n, l, rfl⟩, h, ?_⟩
  refine SatD.ret ?_
  simp [d17res]
  rw [wrap_id (by omega)]

/-- Is it an item? -/
def isItem (nt st h f t : Int) : Prop := ¬ (h < 0 ∨ nt ≤ h ∨ f < 0 ∨ t < f ∨ st ≤ t)
instance (nt st h f t : Int) : Decidable (isItem nt st h f t) := by unfold isItem; infer_instance

theorem t15 (n : Normal) (l : Lattice) (h f t : Int) (hs : sm n.nonterms l.states) : CallsOk Try.prog 15 [n.enc, l.enc, .agg [ti h, ti f, ti t]]
    (if isItem n.nonterms l.states h f t then .tup [ti (idxI n.nonterms l.states h f t), .bool true] else .tup [ti 0, .bool false]) := by
  have hΓ := ok1
  refine c15.ok (by simp) (initSt_sat ?_)
  simp [Normal.enc, Lattice.enc]
  refine SatD.regSeq hΓ follows [3, 4, 5] ?_
  simp [d15r0]
  refine SatD.seq ?_
  refine SatD.regSeq hΓ follows [3, 4, 5, 36] ?_
  simp [d15r1]
  repeat' (first | apply And.intro | intro _)
  all_goals try (
    refine SatD.cond (by simp; rfl) (fun _ => ?_) (fun h => by cases h)
    refine SatD.regSeq hΓ follows [6, 7] ?_
    simp [d15r2]
    refine SatD.ret ?_
    have hn : ¬ isItem n.nonterms l.states h f t := by unfold isItem; omega
    simp [d15res, hn]
    done)
  rename_i a1 a2 a3 a4
  refine SatD.cond (by simp; rfl) (fun hc => ?_) (fun hc => ?_)
  · simp at hc
    have hn : ¬ isItem n.nonterms l.states h f t := by unfold isItem; omega
    refine SatD.regSeq hΓ follows [6, 7] ?_
    simp [d15r2]
    refine SatD.ret ?_
    simp [d15res, hn]
  · simp at hc
    have hn : isItem n.nonterms l.states h f t := by unfold isItem; omega
    obtain ⟨h1, h2, h3, h4⟩ := hs
    refine SatD.skip ?_
    simp
    refine SatD.regSeq hΓ follows [6, 7] ?_
    simp [d15r3, Γ1, spec32, spec37, fn32, fn37, pre37]
    refine ⟨⟨n, l, rfl⟩, ⟨⟨h1, h2, h3, h4⟩, by omega⟩, ?_⟩
    refine SatD.ret ?_
    simp [d15res, hn]
end Go.Proofs
namespace Go.Proofs
open Go.DM
set_option linter.unusedSimpArgs false
set_option linter.unusedVariables false

theorem pre_le {st : Int} {a : Nat} : ∀ b : Nat, a ≤ b → (b : Int) ≤ st → pre st a ≤ pre st b
  | 0, h, _ => by
    have : a = 0 := by omega
    subst this; exact Int.le_refl _
  | b + 1, h, hb => by
    by_cases e : a = b + 1
    · subst e; exact Int.le_refl _
    · have := pre_le (st := st) (a := a) b (by omega) (by omega)
      simp only [pre]
      omega
theorem pre_lt {st : Int} {a b : Nat} (h : a < b) (hb : (b : Int) ≤ st) : pre st a + st - a ≤ pre st b := by
  have := pre_le (st := st) (a := a + 1) b h hb
  simpa [pre] using this
theorem pre_closed (st : Int) : ∀ n : Nat, 2 * pre st n = 2 * (n * st) - n * (n - 1)
  | 0 => by simp [pre]
  | n + 1 => by
    have ih := pre_closed st n
    simp only [pre]
    have e1 : ((n + 1 : Nat) : Int) * st = n * st + st := by rw [Int.natCast_add, Int.add_mul]; simp
    have e2 : ((n + 1 : Nat) : Int) * (((n + 1 : Nat) : Int) - 1) = n * (n - 1) + 2 * n := by
      have : ((n + 1 : Nat) : Int) - 1 = n := by omega
      rw [this, Int.natCast_add, Int.add_mul, Int.mul_sub]
      simp; omega
    rw [e1, e2]
    omega
/-- The number of a span. -/
def spanI (st f t : Int) : Int := pre st f.toNat + t - f
theorem idx_eq {nt st h f t : Int} (hf : 0 ≤ f) : idxI nt st h f t = spanI st f t * nt + h := by
  have := pre_closed st f.toNat
  have e : (f.toNat : Int) = f := by omega
  rw [e] at this
  unfold idxI spanI
  have : f * st - f * (f - 1) / 2 = pre st f.toNat := by omega
  rw [this]
theorem goal_eq {nt st : Int} (hs : 0 ≤ st) : goalI nt st = pre st st.toNat * nt := by
  have := pre_closed st st.toNat
  have e : (st.toNat : Int) = st := by omega
  rw [e] at this
  unfold goalI
  have h2 : st * (st + 1) = 2 * pre st st.toNat := by
    rw [Int.mul_add, Int.mul_one]
    rw [Int.mul_sub, Int.mul_one] at this
    omega
  rw [Int.mul_assoc, h2, ← Int.mul_assoc, Int.mul_comm nt 2, Int.mul_assoc, Int.mul_ediv_cancel_left _ (by omega), Int.mul_comm]

theorem span_pos {st f t : Int} (h1 : st ≤ 1000) (hf : 0 ≤ f) (hft : f ≤ t) (ht : t < st) : 0 ≤ spanI st f t ∧ spanI st f t < pre st st.toNat ∧ pre st st.toNat ≤ 1000000 := by
  have b := pre_bound h1 f.toNat (by omega)
  have b2 := pre_bound h1 st.toNat (by omega)
  have l := pre_lt (st := st) (a := f.toNat) (b := st.toNat) (by omega) (by omega)
  unfold spanI
  omega
theorem span_lt {st f t s u : Int} (hs : 0 ≤ s) (hf : s < f) (hfs : f ≤ st) (hft : f ≤ t) (hu : u < st) : spanI st s u < spanI st f t := by
  have l := pre_lt (st := st) (a := s.toNat) (b := f.toNat) (by omega) (by omega)
  unfold spanI
  omega

theorem divmod {x nt h : Int} (h1 : 0 ≤ h) (h2 : h < nt) : (x * nt + h) / nt = x ∧ (x * nt + h) % nt = h := by
  rw [Int.ediv_emod_unique (by omega)]
  exact ⟨by rw [Int.mul_comm nt x]; omega, h1, h2⟩

/-- Every number below the goal is that of an item. -/
theorem item_of {nt st i : Int} (h : sm nt st) (hi : 0 ≤ i) (hg : i < goalI nt st) : ∃ hd f t, isItem nt st hd f t ∧ i = spanI st f t * nt + hd := by
  obtain ⟨h1, h2, h3, h4⟩ := h
  rw [goal_eq h3] at hg
  have hnt : 0 < nt := by
    by_cases e : nt = 0
    · subst e; simp at hg; omega
    · omega
  have hd : i / nt * nt + i % nt = i := by rw [Int.mul_comm]; exact Int.mul_ediv_add_emod i nt
  have hm := Int.emod_nonneg i (show nt ≠ 0 by omega)
  have hm2 := Int.emod_lt_of_pos i hnt
  have hq : 0 ≤ i / nt := Int.ediv_nonneg hi h1
  have hq2 : i / nt < pre st st.toNat := Int.ediv_lt_of_lt_mul hnt hg
  have key : ∀ n : Nat, (n : Int) ≤ st → ∀ q, 0 ≤ q → q < pre st n → ∃ f t, 0 ≤ f ∧ f ≤ t ∧ t < st ∧ q = spanI st f t := by
    intro n
    induction n with
    | zero => intro _ q h0 hq; simp [pre] at hq; omega
    | succ n ih =>
      intro hn q h0 hq
      by_cases hlt : q < pre st n
      · exact ih (by omega) q h0 hlt
      · refine ⟨n, q - pre st n + n, by omega, by omega, ?_, ?_⟩
        · simp only [pre] at hq; omega
        · simp [spanI]; omega
  obtain ⟨f, t, k1, k2, k3, k4⟩ := key st.toNat (by omega) (i / nt) hq hq2
  refine ⟨i % nt, f, t, ?_, by rw [← k4]; exact hd.symm⟩
  unfold isItem
  omega

theorem goal_bound {nt st : Int} (h : sm nt st) : 0 ≤ goalI nt st ∧ goalI nt st ≤ 1000000000 := by
  obtain ⟨h1, h2, h3, h4⟩ := h
  rw [goal_eq h3]
  have b := pre_bound h4 st.toNat (by omega)
  have := mul_bound (a := pre st st.toNat) (m := 1000000) b.1 (by omega) h1 h2
  omega

theorem idx_lt {nt st hd f t : Int} (h : sm nt st) (hi : isItem nt st hd f t) : 0 ≤ spanI st f t * nt + hd ∧ spanI st f t * nt + hd < goalI nt st := by
  obtain ⟨h1, h2, h3, h4⟩ := h
  unfold isItem at hi
  rw [goal_eq h3]
  have b := span_pos (st := st) (f := f) (t := t) h4 (by omega) (by omega) (by omega)
  have g1 := Int.mul_nonneg b.1 h1
  have g2 : (spanI st f t + 1) * nt ≤ pre st st.toNat * nt := Int.mul_le_mul_of_nonneg_right (by omega) h1
  rw [Int.add_mul] at g2
  omega

theorem t16a (n : Normal) (l : Lattice) (h f t : Int) (hs : sm n.nonterms l.states) (hi : isItem n.nonterms l.states h f t) :
    CallsOk Try.prog 16 [n.enc, l.enc, ti (spanI l.states f t * n.nonterms + h)] (.tup [.agg [ti h, ti f, ti t], .bool true]) := by
  have hΓ := ok1
  have hr := idx_lt hs hi
  have hgb := goal_bound hs
  have hi' := hi
  unfold isItem at hi'
  have hs' := hs
  obtain ⟨h1, h2, h3, h4⟩ := hs'
  have hdm := divmod (x := spanI l.states f t) (nt := n.nonterms) (h := h) (by omega) (by omega)
  have hsp := span_pos (st := l.states) (f := f) (t := t) h4 (by omega) (by omega) (by omega)
  generalize hii : spanI l.states f t * n.nonterms + h = i at *
  refine c16.ok (by simp) (initSt_sat ?_)
  simp [Normal.enc, Lattice.enc]
  refine SatD.regSeq hΓ follows [2, 3, 4, 6] ?_
  simp [d16r0]
  refine SatD.seq ?_
  refine SatD.regSeq hΓ follows [2, 3, 4, 6, 19] ?_
  simp [d16r1, Γ1, spec32, spec33, fn32, fn33, pre33]
  refine ⟨fun _ => ⟨⟨n, l, rfl⟩, hs, ?_⟩, fun hc => by omega⟩
  refine SatD.cond (by simp; rfl) (fun hc => ?_) (fun hc => ?_)
  · simp at hc; omega
  · refine SatD.skip ?_
    simp
    refine SatD.regSeq hΓ follows [2, 3, 4, 6, 8] ?_
    simp [d16r3]
    refine ⟨by omega, ?_⟩
    rw [Int.tdiv_eq_ediv_of_nonneg hr.1, hdm.1, wrap_id (by omega)]
    refine SatD.regSeq hΓ follows [2, 3, 4, 6, 8, 9] ?_
    simp [d16r4]
    refine SatD.seq ?_
    refine SatD.block ?_ -- 0
    refine SatD.loop (fun y : Nat => ⟨DM.look [(2, .v (ti i)), (3, .ptr 1004 0), (4, .ptr 1005 0), (6, .ptr 1007 0), (8, .v (ti (spanI l.states f t - pre l.states y))), (9, .v (ti y))],
        obs [(1007, .box [.v (ti 0), .v (ti 0), .v (ti 0)]), (1005, .box [.v (ti l.states), .v (.sl (arcsT l.arcs)), .v (.sl (intsT l.final))]), (1004, .box [.v (ti n.terms), .v (ti n.nonterms), .v (ti n.start), .v (.sl (rulesT n.rules))])], 2000, 1000, []⟩)
      (fun y => (y : Int) ≤ f) (fun y => f.toNat - y) 0 (Le.keep ?_ ?_ ?_ ?_) (by simp; omega) (fun y hy => ?_)
    · simp
    · simp
    · simp
    · simp [pre]
    have hb := pre_bound h4 y (by omega)
    have hsf : y < f.toNat → pre l.states y + l.states - y ≤ pre l.states f.toNat := fun e => pre_lt e (by omega)
    have hspan : spanI l.states f t = pre l.states f.toNat + t - f := rfl
    refine SatD.seq ?_
    refine SatD.regSeq hΓ follows [2, 3, 4, 6, 8, 9, 30] ?_
    simp [d16r5]
    rw [wrap_id (x := l.states - (y : Int)) (by omega)]
    refine SatD.cond (by simp; rfl) (fun hc => ?_) (fun hc => ?_)
    · refine SatD.skip ?_
      simp at hc
      simp
      have hlt : y < f.toNat := by
        by_cases e : y = f.toNat
        · subst e
          omega
        · omega
      refine SatD.block ?_ -- 1
      refine SatD.regSeq hΓ follows [2, 3, 4, 6, 8, 9] ?_
      simp [d16r6]
      refine SatD.reg hΓ follows [2, 3, 4, 6, 8, 9] ?_
      simp [d16r7]
      refine ⟨y + 1, Le.keep ?_ ?_ ?_ ?_, ?_, ?_⟩
      · simp
      · simp
      · simp
      · simp [pre]
        simp (disch := omega) only [wrap_id]
        exact ⟨by omega, trivial⟩
      · omega
      · omega
    · refine SatD.exit ?_
      simp at hc
      simp
      have hyf : y = f.toNat := by
        by_cases e : y < f.toNat
        · have := hsf e
          omega
        · omega
      subst hyf
      refine SatD.regSeq hΓ follows [6, 7] ?_
      simp [d16r8]
      refine ⟨by omega, ?_⟩
      refine SatD.ret ?_
      simp [d16res]
      rw [Int.tmod_eq_emod_of_nonneg hr.1, hdm.2, wrap_id (by omega)]
      omega

theorem t16b (n : Normal) (l : Lattice) (i : Int) (hs : sm n.nonterms l.states) (hi : i < 0 ∨ goalI n.nonterms l.states ≤ i) :
    CallsOk Try.prog 16 [n.enc, l.enc, ti i] (.tup [.agg [ti 0, ti 0, ti 0], .bool false]) := by
  have hΓ := ok1
  refine c16.ok (by simp) (initSt_sat ?_)
  simp [Normal.enc, Lattice.enc]
  refine SatD.regSeq hΓ follows [2, 3, 4, 6] ?_
  simp [d16r0]
  refine SatD.seq ?_
  refine SatD.regSeq hΓ follows [2, 3, 4, 6, 19] ?_
  simp [d16r1, Γ1, spec32, spec33, fn32, fn33, pre33]
  refine ⟨fun _ => ⟨⟨n, l, rfl⟩, hs, ?_⟩, fun hc => ?_⟩
  all_goals
    refine SatD.cond (by simp; rfl) (fun hc => ?_) (fun hc => ?_)
    · refine SatD.regSeq hΓ follows [6, 7] ?_
      simp [d16r2]
      refine SatD.ret ?_
      simp [d16res]
    · simp at hc <;> omega
end Go.Proofs
namespace Go.Proofs
open Go.DM
set_option linter.unusedSimpArgs false
set_option linter.unusedVariables false

theorem t39 {Γ : Env} (hΓ : EnvOk Try.prog Γ) (n : Normal) (l : Lattice) (hs : sm n.nonterms l.states) : CallsOk Try.prog 39 [n.enc, l.enc] (ti (goalI n.nonterms l.states + 1)) := by
  have hgb := goal_bound hs
  obtain ⟨h1, h2, h3, h4⟩ := hs
  have b1 := mul_bound h3 h4 (b := l.states + 1) (n := 1001) (by omega) (by omega)
  have hge : goalI n.nonterms l.states = l.states * (l.states + 1) / 2 * n.nonterms := by
    rw [goal_eq h3]
    have := pre_closed l.states l.states.toNat
    have e : (l.states.toNat : Int) = l.states := by omega
    rw [e, Int.mul_sub, Int.mul_one] at this
    have h2 : l.states * (l.states + 1) / 2 = pre l.states l.states.toNat := by
      rw [Int.mul_add, Int.mul_one]
      omega
    rw [h2]
  refine c39.ok (by simp) (initSt_sat ?_)
  simp [Normal.enc, Lattice.enc]
  refine SatD.regSeq hΓ follows [2, 3] ?_
  simp [d39r0]
  refine SatD.regSeq hΓ follows [4] ?_
  simp [d39r1]
  refine SatD.ret ?_
  simp [d39res]
  rw [wrap_id (x := l.states + 1) (by omega), wrap_id (x := l.states * (l.states + 1)) (by omega), Int.tdiv_eq_ediv_of_nonneg b1.1, wrap_id (x := l.states * (l.states + 1) / 2) (by omega), ← hge, wrap_id (x := goalI n.nonterms l.states) (by omega), wrap_id (by omega)]

def fn39 : List T → T
  | [.agg [_, .int _ nt, _, _], .agg [.int _ st, _, _]] => ti (goalI nt st + 1)
  | _ => .bool false
def pre39 (ts : List T) : Prop := ∃ (n : Normal) (l : Lattice), ts = [n.enc, l.enc] ∧ sm n.nonterms l.states
def spec39 : DM.Spec := specP pre39 fn39 true
def fn40 : List T → T
  | [.agg [_, .int _ nt, _, _], .agg [.int _ st, _, _], .int _ f, .int _ t] => ti (spanI st f t * nt)
  | _ => .bool false
def pre40 (ts : List T) : Prop := ∃ (n : Normal) (l : Lattice) (f t : Int), ts = [n.enc, l.enc, ti f, ti t] ∧ sm n.nonterms l.states ∧ 0 ≤ f ∧ f ≤ t ∧ t < l.states
def spec40 : DM.Spec := specP pre40 fn40 true
def Γ2 : Env := envOf [(39, spec39), (40, spec40)]
theorem ok2 : EnvOk Try.prog Γ2 := by
  refine EnvOk.cons (EnvOk.cons EnvOk.nil ?_) ?_
  · rintro ts ⟨n, l, f, t, rfl, ⟨h1, h2, h3, h4⟩, k1, k2, k3⟩
    exact ⟨t40 EnvOk.nil n l f t h4 k1 k2 k3 h1 h2, fun _ => rfl⟩
  · rintro ts ⟨n, l, rfl, h1⟩
    exact ⟨t39 EnvOk.nil n l h1, fun _ => rfl⟩

theorem t18 (n : Normal) (l : Lattice) (h f t : Int) (hs : sm n.nonterms l.states) : CallsOk Try.prog 18 [n.enc, l.enc, .agg [ti h, ti f, ti t]]
    (if isItem n.nonterms l.states h f t then .tup [ti (idxI n.nonterms l.states h f t), .bool true] else .tup [ti 0, .bool false]) := by
  have hΓ := ok2
  refine c18.ok (by simp) (initSt_sat ?_)
  simp [Normal.enc, Lattice.enc]
  refine SatD.regSeq hΓ follows [3, 4, 5] ?_
  simp [d18r0]
  refine SatD.seq ?_
  refine SatD.regSeq hΓ follows [3, 4, 5, 36] ?_
  simp [d18r1]
  repeat' (first | apply And.intro | intro _)
  all_goals try (
    refine SatD.cond (by simp; rfl) (fun _ => ?_) (fun h => by cases h)
    refine SatD.regSeq hΓ follows [6, 7] ?_
    simp [d18r2]
    refine SatD.ret ?_
    have hn : ¬ isItem n.nonterms l.states h f t := by unfold isItem; omega
    simp [d18res, hn]
    done)
  rename_i a1 a2 a3 a4
  refine SatD.cond (by simp; rfl) (fun hc => ?_) (fun hc => ?_)
  · simp at hc
    have hn : ¬ isItem n.nonterms l.states h f t := by unfold isItem; omega
    refine SatD.regSeq hΓ follows [6, 7] ?_
    simp [d18r2]
    refine SatD.ret ?_
    simp [d18res, hn]
  · simp at hc
    have hn : isItem n.nonterms l.states h f t := by unfold isItem; omega
    have hil := idx_lt hs hn
    have hgb := goal_bound hs
    refine SatD.skip ?_
    simp
    refine SatD.regSeq hΓ follows [6, 7] ?_
    simp [d18r3, Γ2, spec40, fn40]
    refine ⟨⟨n, l, f, t, rfl, hs, by omega, by omega, by omega⟩, ?_⟩
    refine SatD.ret ?_
    simp [d18res, hn]
    rw [idx_eq (by omega), wrap_id (by omega)]

end Go.Proofs
namespace Go.Proofs
open Go.DM
set_option linter.unusedSimpArgs false
set_option linter.unusedVariables false

instance : Inhabited Arc := ⟨⟨0, 0, 0, 0, []⟩⟩
instance : Inhabited Rule := ⟨⟨0, 0, 0, 0, 0, 0⟩⟩
instance : Inhabited Edge := ⟨⟨0, [], 0, 0, 0⟩⟩
@[simp] theorem length_ints (l : List Int) : (intsT l).length = l.length := by simp [intsT]
@[simp] theorem length_arcs (l : List Arc) : (arcsT l).length = l.length := by simp [arcsT]
@[simp] theorem length_rules (l : List Rule) : (rulesT l).length = l.length := by simp [rulesT]
@[simp] theorem length_edges (l : List Edge) : (edgesT l).length = l.length := by simp [edgesT]
theorem rowAt_ints {l : List Int} {y : Nat} (h : y < l.length) : DM.rowAt (intsT l) y = [ti (l.getD y default)] := by simp [DM.rowAt, intsT, h]
theorem rowAt_arcs {l : List Arc} {y : Nat} (h : y < l.length) : DM.rowAt (arcsT l) y = (l.getD y default).enc := by simp [DM.rowAt, arcsT, h]
theorem rowAt_rules {l : List Rule} {y : Nat} (h : y < l.length) : DM.rowAt (rulesT l) y = (l.getD y default).enc := by simp [DM.rowAt, rulesT, h]
theorem rowAt_edges {l : List Edge} {y : Nat} (h : y < l.length) : DM.rowAt (edgesT l) y = (l.getD y default).enc := by simp [DM.rowAt, edgesT, h]

abbrev Inf : Int := 1099511627776
def beforeI (f t m f' t' m' : Int) : Bool := if f ≠ f' then decide (f < f') else if t ≠ t' then decide (t < t') else decide (m < m')
abbrev before (a b : Arc) : Bool := beforeI a.f a.t a.term b.f b.t b.term

theorem t45 {Γ : Env} (hΓ : EnvOk Try.prog Γ) (a b : Arc) : CallsOk Try.prog 45 [.agg a.enc, .agg b.enc] (.bool (before a b)) := by
  refine c45.ok (by simp) (initSt_sat ?_)
  simp [Arc.enc]
  refine SatD.regSeq hΓ follows [2, 3] ?_
  simp [d45r0]
  refine SatD.seq ?_
  refine SatD.regSeq hΓ follows [2, 3, 9] ?_
  simp [d45r1]
  refine SatD.cond rfl (fun h => ?_) (fun h => ?_)
  · simp at h
    refine SatD.regSeq hΓ follows [4] ?_
    simp [d45r2]
    refine SatD.ret ?_
    simp [d45res, beforeI, h]
  · simp at h
    refine SatD.skip ?_
    simp
    refine SatD.seq ?_
    refine SatD.regSeq hΓ follows [2, 3, 19] ?_
    simp [d45r3]
    refine SatD.cond rfl (fun h2 => ?_) (fun h2 => ?_)
    · simp at h2
      refine SatD.regSeq hΓ follows [4] ?_
      simp [d45r4]
      refine SatD.ret ?_
      simp [d45res, beforeI, h, h2]
    · simp at h2
      refine SatD.skip ?_
      simp
      refine SatD.regSeq hΓ follows [4] ?_
      simp [d45r5]
      refine SatD.ret ?_
      simp [d45res, beforeI, h, h2]

def fn45 : List T → T
  | [.agg [.int _ f, .int _ t, .int _ m, _, _], .agg [.int _ f', .int _ t', .int _ m', _, _]] => .bool (beforeI f t m f' t' m')
  | _ => .bool false
def pre45 (ts : List T) : Prop := ∃ a b : Arc, ts = [.agg a.enc, .agg b.enc]
def spec45 : DM.Spec := specP pre45 fn45 true
def Γ3 : Env := envOf [(45, spec45)]
theorem ok3 : EnvOk Try.prog Γ3 := by
  refine EnvOk.cons EnvOk.nil ?_
  rintro ts ⟨a, b, rfl⟩
  exact ⟨t45 EnvOk.nil a b, fun _ => rfl⟩

def okFin (l : Lattice) (i : Nat) : Bool := decide (0 ≤ l.final.getD i default ∧ l.final.getD i default ≤ Inf)
def badArc (l : Lattice) (terms : Int) (i : Nat) : Prop :=
  (l.arcs.getD i default).f < 0 ∨ (l.arcs.getD i default).t < (l.arcs.getD i default).f ∨ l.states ≤ (l.arcs.getD i default).t ∨ (l.arcs.getD i default).term < 0 ∨ terms ≤ (l.arcs.getD i default).term ∨
    (l.arcs.getD i default).cost < 0 ∨ Inf ≤ (l.arcs.getD i default).cost ∨ ((l.arcs.getD i default).f = (l.arcs.getD i default).t ∧ (l.arcs.getD i default).cost = 0) ∨ (0 < i ∧ before (l.arcs.getD (i - 1) default) (l.arcs.getD i default) = false)
instance (l : Lattice) (terms : Int) (i : Nat) : Decidable (badArc l terms i) := by unfold badArc; infer_instance
def okArc (l : Lattice) (terms : Int) (i : Nat) : Bool := !decide (badArc l terms i)
def validL (l : Lattice) (terms : Int) : Bool := decide (1 ≤ l.states ∧ (l.final.length : Int) = l.states) && ((List.range l.final.length).all (okFin l) && (List.range l.arcs.length).all (okArc l terms))

theorem all_range_false {p : Nat → Bool} {n i : Nat} (h : i < n) (hp : p i = false) : (List.range n).all p = false := by
  rw [List.all_eq_false]
  exact ⟨i, by simp [h], by simp [hp]⟩
theorem all_range_true {p : Nat → Bool} {n : Nat} (h : ∀ i, i < n → p i = true) : (List.range n).all p = true := by
  rw [List.all_eq_true]
  intro i hi
  exact h i (by simpa using hi)

set_option maxRecDepth 20000 in
theorem t31 (l : Lattice) (terms : Int) (hf : l.final.length ≤ 9223372036854775807) (ha : l.arcs.length ≤ 9223372036854775807) : CallsOk Try.prog 31 [l.enc, ti terms] (.bool (validL l terms)) := by
  have hΓ := ok3
  refine c31.ok (by simp) (initSt_sat ?_)
  simp [Lattice.enc]
  refine SatD.regSeq hΓ follows [1, 2] ?_
  simp [d31r0]
  refine SatD.seq ?_
  refine SatD.regToSeq hΓ follows [(1, .v (ti terms)), (2, .ptr 1003 0), (18, .v (.bool (!decide (1 ≤ l.states ∧ (l.final.length : Int) = l.states))))] (obs [(1003, .box [.v (ti l.states), .v (.sl (arcsT l.arcs)), .v (.sl (intsT l.final))])]) ?_ ?_
  · simp [d31r1]
    refine ⟨fun h => ?_, fun h => ?_⟩ <;> first | omega | (rw [Bool.eq_iff_iff]; simp; omega)
  refine SatD.cond rfl (fun h => ?_) (fun h => ?_)
  · refine SatD.regSeq hΓ follows [4] ?_
    simp [d31r2]
    refine SatD.ret ?_
    simp only [Bool.not_eq_true', decide_eq_false_iff_not] at h
    simp [d31res, validL, h]
  · simp only [Bool.not_eq_false', decide_eq_true_eq] at h
    refine SatD.skip ?_
    simp
    refine SatD.seq ?_
    refine SatD.regSeq hΓ follows [1, 2, 5] ?_
    simp [d31r3]
    refine SatD.block ?_ -- 0
    refine SatD.loop (fun y : Nat => ⟨DM.look [(1, .v (ti terms)), (2, .ptr 1003 0), (5, .v (ti y))], obs [(1003, .box [.v (ti l.states), .v (.sl (arcsT l.arcs)), .v (.sl (intsT l.final))])], 2000, 1000, []⟩)
      (fun y => y ≤ l.final.length ∧ ∀ i, i < y → okFin l i = true) (fun y => l.final.length - y) 0 (Le.keep ?_ ?_ ?_ ?_) (by simp) (fun y hy => ?_)
    · simp
    · simp
    · simp
    · simp
    obtain ⟨hy1, hy2⟩ := hy
    refine SatD.seq ?_
    refine SatD.regSeq hΓ follows [1, 2, 5, 23] ?_
    simp [d31r4]
    refine SatD.cond rfl (fun hc => ?_) (fun hc => ?_)
    · simp at hc
      refine SatD.skip ?_
      simp
      refine SatD.seq ?_
      refine SatD.block ?_ -- 1
      refine SatD.regToSeq hΓ follows [(1, .v (ti terms)), (2, .ptr 1003 0), (5, .v (ti y)), (39, .v (.bool (!okFin l y)))] (obs [(1003, .box [.v (ti l.states), .v (.sl (arcsT l.arcs)), .v (.sl (intsT l.final))])]) ?_ ?_
      · simp [d31r5, rowAt_ints hc, hc, okFin]
        refine ⟨fun h => ?_, fun h => ?_⟩ <;> first | omega | (rw [Bool.eq_iff_iff]; simp; omega)
      refine SatD.cond rfl (fun h2 => ?_) (fun h2 => ?_)
      · refine SatD.regSeq hΓ follows [4] ?_
        simp [d31r6]
        refine SatD.ret ?_
        simp at h2
        have := all_range_false (p := okFin l) hc (by simpa [okFin] using h2)
        simp [d31res, validL, this]
      · simp only [Bool.not_eq_false'] at h2
        refine SatD.skip ?_
        simp
        refine SatD.reg hΓ follows [1, 2, 5] ?_
        simp [d31r7]
        refine ⟨y + 1, Le.keep ?_ ?_ ?_ ?_, ⟨?_, ?_⟩, ?_⟩
        · simp
        · simp
        · simp
        · simp
          exact (wrap_id (by omega)).symm
        · omega
        · intro i hi
          by_cases e : i = y
          · subst e; exact h2
          · exact hy2 i (by omega)
        · omega
    · simp at hc
      have hfin := all_range_true (p := okFin l) (n := l.final.length) (fun i hi => hy2 i (by omega))
      refine SatD.exit ?_
      simp
      refine SatD.seq ?_
      refine SatD.regSeq hΓ follows [1, 2, 6] ?_
      simp [d31r8]
      refine SatD.block ?_ -- 2
      refine SatD.loop (fun y : Nat => ⟨DM.look [(1, .v (ti terms)), (2, .ptr 1003 0), (6, .v (ti y))], obs [(1003, .box [.v (ti l.states), .v (.sl (arcsT l.arcs)), .v (.sl (intsT l.final))])], 3000, 1000, []⟩)
        (fun y => y ≤ l.arcs.length ∧ ∀ i, i < y → okArc l terms i = true) (fun y => l.arcs.length - y) 0 (Le.keep ?_ ?_ ?_ ?_) (by simp) (fun y hy => ?_)
      · simp
      · simp
      · simp
      · simp
      obtain ⟨hy1, hy2⟩ := hy
      refine SatD.seq ?_
      refine SatD.regSeq hΓ follows [1, 2, 6, 44] ?_
      simp [d31r9]
      refine SatD.cond rfl (fun hc => ?_) (fun hc => ?_)
      · simp at hc
        refine SatD.skip ?_
        simp
        refine SatD.seq ?_
        refine SatD.block ?_ -- 3
        refine SatD.regSeq hΓ follows [1, 2, 6, 7] ?_
        have hrow := rowAt_arcs hc
        simp [d31r10, hrow, hc, Arc.enc]
        refine SatD.regToS hΓ follows [(1, .v (ti terms)), (2, .ptr 1003 0), (6, .v (ti y)), (116, .v (.bool (decide (badArc l terms y))))] ?_ ?_
        rotate_left
        · refine SatD.cond rfl (fun h2 => ?_) (fun h2 => ?_)
          · refine SatD.regSeq hΓ follows [4] ?_
            simp [d31r12]
            refine SatD.ret ?_
            have h2' : okArc l terms y = false := by unfold okArc; rw [h2]; rfl
            have := all_range_false (p := okArc l terms) hc h2'
            simp [d31res, validL, this]
          · have h2' : okArc l terms y = true := by unfold okArc; rw [h2]; rfl
            refine SatD.skip ?_
            simp
            refine SatD.reg hΓ follows [1, 2, 6] ?_
            simp [d31r13]
            refine ⟨y + 1, Le.keep ?_ ?_ ?_ ?_, ⟨?_, ?_⟩, ?_⟩
            · simp
            · simp
            · simp
            · simp
              exact (wrap_id (by omega)).symm
            · omega
            · intro i hi
              by_cases e : i = y
              · subst e; exact h2'
              · exact hy2 i (by omega)
            · omega
        · have hb := hc
          cases y with
          | zero =>
            simp [d31r11]
            repeat' (first | apply And.intro | intro _)
            all_goals first | omega | (simp [badArc, hc, Inf]; omega) | (rename_i hh; revert hh; simp [badArc, hc, Inf]; omega)
          | succ z =>
            have ew : IntKind.i64.wrap (z : Int) = z := wrap_id (by omega)
            have hrow2 := rowAt_arcs (l := l.arcs) (y := z) (by omega)
            have hz : z < l.arcs.length := by omega
            simp [d31r11, ew, hrow2, hz, Arc.enc, Γ3, spec45, fn45]
            repeat' (first | apply And.intro | intro _)
            all_goals first | omega | exact ⟨l.arcs[z], l.arcs[z + 1], rfl⟩ | (simp [badArc, hc, hz, Inf]; omega) | (rename_i hh; revert hh; simp [badArc, hc, hz, Inf]; omega) | (generalize hbb : beforeI _ _ _ _ _ _ = bb; cases bb <;> simp [badArc, hc, hz, Inf, hbb] <;> omega)
      · simp at hc
        have harcs := all_range_true (p := okArc l terms) (n := l.arcs.length) (fun i hi => hy2 i (by omega))
        refine SatD.exit ?_
        simp
        refine SatD.regSeq hΓ follows [4] ?_
        simp [d31r14]
        refine SatD.ret ?_
        simp [d31res, validL, hfin, harcs, h]
end Go.Proofs
namespace Go.Proofs
open Go.DM
set_option linter.unusedSimpArgs false
set_option linter.unusedVariables false

def headBad (n : Normal) : Prop := n.terms < 0 ∨ 120 < n.terms ∨ n.nonterms < 1 ∨ 1000 < n.nonterms ∨ n.start < 0 ∨ n.nonterms ≤ n.start ∨ 600 < (n.rules.length : Int)
instance (n : Normal) : Decidable (headBad n) := by unfold headBad; infer_instance
def ruleBad (n : Normal) (r : Rule) : Prop := r.head < 0 ∨ n.nonterms ≤ r.head ∨ r.price < 0 ∨ 1000 < r.price ∨ r.origin < -1
instance (n : Normal) (r : Rule) : Decidable (ruleBad n r) := by unfold ruleBad; infer_instance
def bodyOk (n : Normal) (r : Rule) : Prop :=
  (r.kind = 1 ∧ r.a = 0 ∧ r.b = 0) ∨ (r.kind = 2 ∧ 0 ≤ r.a ∧ r.a < n.terms ∧ r.b = 0) ∨ (r.kind = 3 ∧ 0 ≤ r.a ∧ r.a < n.nonterms ∧ r.b = 0) ∨ (r.kind = 4 ∧ 0 ≤ r.a ∧ r.a < n.nonterms ∧ 0 ≤ r.b ∧ r.b < n.nonterms)
instance (n : Normal) (r : Rule) : Decidable (bodyOk n r) := by unfold bodyOk; infer_instance
def okRule (n : Normal) (i : Nat) : Bool := decide (¬ ruleBad n (n.rules.getD i default) ∧ bodyOk n (n.rules.getD i default))
def validN (n : Normal) : Bool := !decide (headBad n) && (List.range n.rules.length).all (okRule n)

set_option maxRecDepth 20000 in
theorem t44 {Γ : Env} (hΓ : EnvOk Try.prog Γ) (n : Normal) (hl : n.rules.length ≤ 9223372036854775807) : CallsOk Try.prog 44 [n.enc] (.bool (validN n)) := by
  refine c44.ok (by simp) (initSt_sat ?_)
  simp [Normal.enc]
  refine SatD.regSeq hΓ follows [1] ?_
  simp [d44r0]
  refine SatD.seq ?_
  refine SatD.regToS hΓ follows [(1, .ptr 1002 0), (41, .v (.bool (decide (headBad n))))] ?_ ?_
  · simp [d44r1]
    repeat' (first | apply And.intro | intro _)
    all_goals first | omega | (simp [headBad]; omega) | (rename_i hh; revert hh; simp [headBad]; omega)
  refine SatD.cond rfl (fun h => ?_) (fun h => ?_)
  · refine SatD.regSeq hΓ follows [2] ?_
    simp [d44r2]
    refine SatD.ret ?_
    simp [d44res, validN, h]
  simp only [decide_eq_false_iff_not] at h
  refine SatD.skip ?_
  simp
  refine SatD.seq ?_
  refine SatD.regSeq hΓ follows [1, 3] ?_
  simp [d44r3]
  refine SatD.block ?_ -- 0
  refine SatD.loop (fun y : Nat => ⟨DM.look [(1, .ptr 1002 0), (3, .v (ti y))], obs [(1002, .box [.v (ti n.terms), .v (ti n.nonterms), .v (ti n.start), .v (.sl (rulesT n.rules))])], 2000, 1000, []⟩)
    (fun y => y ≤ n.rules.length ∧ ∀ i, i < y → okRule n i = true) (fun y => n.rules.length - y) 0 (Le.keep ?_ ?_ ?_ ?_) (by simp) (fun y hy => ?_)
  · simp
  · simp
  · simp
  · simp
  obtain ⟨hy1, hy2⟩ := hy
  refine SatD.seq ?_
  refine SatD.regSeq hΓ follows [1, 3, 46] ?_
  simp [d44r4]
  refine SatD.cond rfl (fun hc => ?_) (fun hc => ?_)
  · simp at hc
    refine SatD.skip ?_
    simp
    refine SatD.seq ?_
    refine SatD.block ?_ -- 1
    refine SatD.regSeq hΓ follows [1, 3, 4] ?_
    have hrow := rowAt_rules hc
    simp [d44r5, hrow, hc, Rule.enc]
    obtain ⟨r, hr⟩ : ∃ r, n.rules[y] = r := ⟨_, rfl⟩
    simp only [hr]
    have hgd : n.rules.getD y default = r := by simp [hc, hr]
    refine SatD.seq ?_
    refine SatD.regToS hΓ follows [(1, .ptr 1002 0), (3, .v (ti y)), (4, .ptr 2157 0), (78, .v (.bool (decide (ruleBad n r))))] ?_ ?_
    · simp [d44r6]
      repeat' (first | apply And.intro | intro _)
      all_goals first | omega | (simp [ruleBad]; omega) | (rename_i hh; revert hh; simp [ruleBad]; omega) | trace_state
    refine SatD.cond rfl (fun h2 => ?_) (fun h2 => ?_)
    · refine SatD.regSeq hΓ follows [2] ?_
      simp [d44r7]
      refine SatD.ret ?_
      simp only [decide_eq_true_eq] at h2
      have := all_range_false (p := okRule n) hc (by unfold okRule; rw [hgd]; simp [h2])
      simp [d44res, validN, this]
    · simp only [decide_eq_false_iff_not] at h2
      refine SatD.skip ?_
      simp
      refine SatD.regSeq hΓ follows [1, 3, 4, 5] ?_
      simp [d44r8]
      refine SatD.seq ?_
      refine SatD.regSeq hΓ follows [1, 3, 4, 5, 80] ?_
      simp [d44r9]
      refine SatD.to ⟨DM.look [(1, .ptr 1002 0), (3, .v (ti y)), (5, .v (.bool (decide (bodyOk n r))))], obs [(1002, .box [.v (ti n.terms), .v (ti n.nonterms), .v (ti n.start), .v (.sl (rulesT n.rules))])], 9000, 1000, []⟩ ?_ ?_
      · refine SatD.block ?_ -- 2
        refine SatD.regSeq hΓ follows [1, 3, 4, 5, 80, 81] ?_
        simp [d44r10]
        refine SatD.cond rfl (fun e1 => ?_) (fun e1 => ?_)
        · simp only [decide_eq_true_eq] at e1
          refine SatD.regToN hΓ follows [(1, .ptr 1002 0), (3, .v (ti y)), (5, .v (.bool (decide (bodyOk n r))))] ?_ ?_
          rotate_left
          · simp only [blockQ]
            refine ⟨trivial, Le.keep ?_ ?_ ?_ ?_⟩ <;> simp
          · simp [d44r11, bodyOk, e1]
            repeat' (first | apply And.intro | intro _)
            all_goals first | omega | (rename_i hh; simp [hh])
        simp only [decide_eq_false_iff_not] at e1
        refine SatD.regSeq hΓ follows [1, 3, 4, 5, 80, 91] ?_
        simp [d44r12]
        refine SatD.cond rfl (fun e2 => ?_) (fun e2 => ?_)
        · simp only [decide_eq_true_eq] at e2
          refine SatD.regToN hΓ follows [(1, .ptr 1002 0), (3, .v (ti y)), (5, .v (.bool (decide (bodyOk n r))))] ?_ ?_
          rotate_left
          · simp only [blockQ]
            refine ⟨trivial, Le.keep ?_ ?_ ?_ ?_⟩ <;> simp
          · simp [d44r13, bodyOk, e2]
            repeat' (first | apply And.intro | intro _)
            all_goals first | omega | (rw [Bool.eq_iff_iff]; simp; omega)
        simp only [decide_eq_false_iff_not] at e2
        refine SatD.regSeq hΓ follows [1, 3, 4, 5, 80, 108] ?_
        simp [d44r14]
        refine SatD.cond rfl (fun e3 => ?_) (fun e3 => ?_)
        · simp only [decide_eq_true_eq] at e3
          refine SatD.regToN hΓ follows [(1, .ptr 1002 0), (3, .v (ti y)), (5, .v (.bool (decide (bodyOk n r))))] ?_ ?_
          rotate_left
          · simp only [blockQ]
            refine ⟨trivial, Le.keep ?_ ?_ ?_ ?_⟩ <;> simp
          · simp [d44r15, bodyOk, e3]
            repeat' (first | apply And.intro | intro _)
            all_goals first | omega | (rw [Bool.eq_iff_iff]; simp; omega)
        simp only [decide_eq_false_iff_not] at e3
        refine SatD.regSeq hΓ follows [1, 3, 4, 5, 125] ?_
        simp [d44r16]
        refine SatD.cond rfl (fun e4 => ?_) (fun e4 => ?_)
        · simp only [decide_eq_true_eq] at e4
          refine SatD.regToN hΓ follows [(1, .ptr 1002 0), (3, .v (ti y)), (5, .v (.bool (decide (bodyOk n r))))] ?_ ?_
          rotate_left
          · simp only [blockQ]
            refine ⟨trivial, Le.keep ?_ ?_ ?_ ?_⟩ <;> simp
          · simp [d44r17, bodyOk, e4]
            repeat' (first | apply And.intro | intro _)
            all_goals first | omega | (rw [Bool.eq_iff_iff]; simp; omega)
        · simp only [decide_eq_false_iff_not] at e4
          have hb : ¬ bodyOk n r := by unfold bodyOk; omega
          refine SatD.skip ?_
          simp only [blockQ]
          refine ⟨trivial, Le.keep ?_ ?_ ?_ ?_⟩ <;> simp [hb]
      simp
      refine SatD.regSeq hΓ follows [1, 3, 150] ?_
      simp [d44r18]
      refine SatD.cond rfl (fun h3 => ?_) (fun h3 => ?_)
      · refine SatD.regSeq hΓ follows [2] ?_
        simp [d44r19]
        refine SatD.ret ?_
        simp only [Bool.not_eq_true', decide_eq_false_iff_not] at h3
        have := all_range_false (p := okRule n) hc (by unfold okRule; rw [hgd]; simp [h3])
        simp [d44res, validN, this]
      · simp only [Bool.not_eq_false', decide_eq_true_eq] at h3
        refine SatD.skip ?_
        simp
        refine SatD.reg hΓ follows [1, 3] ?_
        simp [d44r20]
        refine ⟨y + 1, Le.keep ?_ ?_ ?_ ?_, ⟨?_, ?_⟩, ?_⟩
        · simp
        · simp
        · simp
        · simp
          exact (wrap_id (by omega)).symm
        · omega
        · intro i hi
          by_cases e : i = y
          · subst e; unfold okRule; rw [hgd]; simp [h2, h3]
          · exact hy2 i (by omega)
        · omega
  · simp at hc
    have hall := all_range_true (p := okRule n) (n := n.rules.length) (fun i hi => hy2 i (by omega))
    refine SatD.exit ?_
    simp
    refine SatD.regSeq hΓ follows [2] ?_
    simp [d44r21]
    refine SatD.ret ?_
    simp [d44res, validN, hall, h]
end Go.Proofs
namespace Go.Proofs
open Go.DM
set_option linter.unusedSimpArgs false
set_option linter.unusedVariables false

/- The trees read back. -/
@[simp] def unti : T → Int
  | .int _ n => n
  | _ => 0
def decRule : List T → Rule
  | [a, b, c, d, e, f] => ⟨unti a, unti b, unti c, unti d, unti e, unti f⟩
  | _ => default
def decArc : List T → Arc
  | [a, b, c, d, .sl o] => ⟨unti a, unti b, unti c, unti d, o.map fun x => (unti (x.getD 0 (ti 0)), unti (x.getD 1 (ti 0)))⟩
  | _ => default
def decInts (l : List (List T)) : List Int := l.map fun x => unti (x.getD 0 (ti 0))
def decEdge : List T → Edge
  | [a, .sl b, c, d, e] => ⟨unti a, decInts b, unti c, unti d, unti e⟩
  | _ => default
def decRules (l : List (List T)) : List Rule := l.map decRule
def decArcs (l : List (List T)) : List Arc := l.map decArc
def decEdges (l : List (List T)) : List Edge := l.map decEdge
theorem map_map_id {α β : Type} {f : α → β} {g : β → α} (h : ∀ a, g (f a) = a) (l : List α) : (l.map f).map g = l := by
  rw [List.map_map]; conv => rhs; rw [← List.map_id l]
  exact List.map_congr_left fun a _ => h a
@[simp] theorem decRules_enc (l : List Rule) : decRules (rulesT l) = l := map_map_id (fun _ => rfl) l
@[simp] theorem decInts_enc (l : List Int) : decInts (intsT l) = l := map_map_id (fun _ => rfl) l
@[simp] theorem decArc_enc (a : Arc) : decArc a.enc = a := by
  cases a with
  | mk f t m c o =>
    simp only [decArc, Arc.enc, unti, opsT]
    congr 1
    exact map_map_id (fun _ => rfl) o
@[simp] theorem decArcs_enc (l : List Arc) : decArcs (arcsT l) = l := map_map_id decArc_enc l
@[simp] theorem decEdge_enc (a : Edge) : decEdge a.enc = a := by
  simp only [decEdge, Edge.enc, unti, decInts_enc]
@[simp] theorem decEdges_enc (l : List Edge) : decEdges (edgesT l) = l := map_map_id decEdge_enc l
def decN : T → Normal
  | .agg [a, b, c, .sl r] => ⟨unti a, unti b, unti c, decRules r⟩
  | _ => ⟨0, 0, 0, []⟩
def decL : T → Lattice
  | .agg [a, .sl b, .sl c] => ⟨unti a, decArcs b, decInts c⟩
  | _ => ⟨0, [], []⟩
@[simp] theorem decN_enc' (a b c : Int) (l : List Rule) : decN (.agg [ti a, ti b, ti c, .sl (rulesT l)]) = ⟨a, b, c, l⟩ := by simp [decN]
@[simp] theorem decN_enc (n : Normal) : decN n.enc = n := by simp [Normal.enc]
@[simp] theorem decL_enc' (a : Int) (l : List Arc) (f : List Int) : decL (.agg [ti a, .sl (arcsT l), .sl (intsT f)]) = ⟨a, l, f⟩ := by simp [decL]
@[simp] theorem decL_enc (n : Lattice) : decL n.enc = n := by simp [Lattice.enc]

def fn44 : List T → T
  | [n] => .bool (validN (decN n))
  | _ => .bool false
def pre44 (ts : List T) : Prop := ∃ n : Normal, ts = [n.enc] ∧ n.rules.length ≤ 9223372036854775807
def Γ4 : Env := envOf [(44, specP pre44 fn44 true)]
theorem ok4 : EnvOk Try.prog Γ4 := by
  refine EnvOk.cons EnvOk.nil ?_
  rintro ts ⟨n, rfl, h⟩
  exact ⟨by simpa [fn44] using t44 EnvOk.nil n h, fun _ => rfl⟩

def smallN (n : Normal) : Bool := decide (n.nonterms ≤ 14 ∧ (n.rules.length : Int) ≤ 24 ∧ n.terms ≤ 6) && validN n
theorem t30 (n : Normal) (hl : n.rules.length ≤ 9223372036854775807) : CallsOk Try.prog 30 [n.enc] (.bool (smallN n)) := by
  have hΓ := ok4
  refine c30.ok (by simp) (initSt_sat ?_)
  simp [Normal.enc]
  refine SatD.regSeq hΓ follows [1, 2] ?_
  simp [d30r0]
  refine SatD.regToS hΓ follows [(2, .v (.bool (smallN n)))] ?_ ?_
  · simp [d30r1, Γ4, fn44, specP]
    repeat' (first | apply And.intro | intro _)
    all_goals first | exact ⟨n, rfl, hl⟩ | (simp [smallN, *]; done) | (simp [smallN]; intros; omega)
  refine SatD.ret ?_
  simp [d30res]

def Γ5 : Env := envOf [(30, specP pre44 (fun | [n] => .bool (smallN (decN n)) | _ => .bool false) true), (31, specP (fun ts => ∃ (l : Lattice) (t : Int), ts = [l.enc, ti t] ∧ l.final.length ≤ 9223372036854775807 ∧ l.arcs.length ≤ 9223372036854775807) (fun | [l, .int _ t] => .bool (validL (decL l) t) | _ => .bool false) true)]
theorem ok5 : EnvOk Try.prog Γ5 := by
  refine EnvOk.cons (EnvOk.cons EnvOk.nil ?_) ?_
  · rintro ts ⟨l, t, rfl, h1, h2⟩
    exact ⟨by simpa using t31 l t h1 h2, fun _ => rfl⟩
  · rintro ts ⟨n, rfl, h⟩
    exact ⟨by simpa using t30 n h, fun _ => rfl⟩

def fair (n : Normal) (l : Lattice) : Bool := smallN n && decide (l.states ≤ 11 ∧ (l.arcs.length : Int) ≤ 120) && validL l n.terms
theorem t10 (n : Normal) (l : Lattice) (hl : n.rules.length ≤ 9223372036854775807) (hf : l.final.length ≤ 9223372036854775807) (ha : l.arcs.length ≤ 9223372036854775807) : CallsOk Try.prog 10 [n.enc, l.enc] (.bool (fair n l)) := by
  have hΓ := ok5
  refine c10.ok (by simp) (initSt_sat ?_)
  simp [Normal.enc, Lattice.enc]
  refine SatD.regSeq hΓ follows [2, 3, 4] ?_
  simp [d10r0]
  refine SatD.regToS hΓ follows [(4, .v (.bool (fair n l)))] ?_ ?_
  · simp [d10r1, Γ5, specP]
    repeat' (first | apply And.intro | intro _)
    all_goals first | exact ⟨n, rfl, hl⟩ | exact ⟨n, rfl, hl⟩ | exact ⟨l, rfl, hf, ha⟩ | (simp [fair, *]; done) | (simp [fair]; intros; omega) | trace_state
  refine SatD.ret ?_
  simp [d10res]
end Go.Proofs
namespace Go.Proofs
open Go.DM
set_option linter.unusedSimpArgs false
set_option linter.unusedVariables false

def headsEq (x y : Edge) : Prop := x.head = y.head ∧ x.cost = y.cost ∧ x.l0 = y.l0 ∧ x.l1 = y.l1 ∧ x.tails.length = y.tails.length
instance (x y : Edge) : Decidable (headsEq x y) := by unfold headsEq; infer_instance
def okEdges (a : List Edge) : Prop := a.length ≤ 140737488355328 ∧ ∀ e ∈ a, e.tails.length ≤ 140737488355328

set_option maxRecDepth 20000 in
theorem t13 (a b : List Edge) (h1 : okEdges a) : CallsOk Try.prog 13 [.sl (edgesT a), .sl (edgesT b)] (.bool (decide (a = b))) := by
  have hΓ : EnvOk Try.prog (envOf []) := EnvOk.nil
  refine c13.ok (by simp) (initSt_sat ?_)
  simp
  refine SatD.regSeq hΓ follows [0, 1] ?_
  simp [d13r0]
  refine SatD.seq ?_
  refine SatD.regSeq hΓ follows [0, 1, 11] ?_
  simp [d13r1]
  refine SatD.cond rfl (fun h => ?_) (fun h => ?_)
  · refine SatD.regSeq hΓ follows [4] ?_
    simp [d13r2]
    refine SatD.ret ?_
    simp at h
    have : a ≠ b := by rintro rfl; simp at h
    simp [d13res, this]
  · simp at h
    have hab : a.length = b.length := by omega
    refine SatD.skip ?_
    simp
    refine SatD.seq ?_
    refine SatD.regSeq hΓ follows [0, 1, 5] ?_
    simp [d13r3]
    refine SatD.block ?_ -- 0
    refine SatD.loop (fun y : Nat => ⟨DM.look [(0, .v (.sl (edgesT a))), (1, .v (.sl (edgesT b))), (5, .v (ti y))], obs [], 2000, 1000, []⟩) (fun y => y ≤ a.length ∧ ∀ i, i < y → a.getD i default = b.getD i default) (fun y => a.length - y) 0 (Le.keep ?_ ?_ ?_ ?_) (by simp) (fun y hy => ?_)
    · simp
    · simp
    · simp
    · simp
    obtain ⟨hy1, hy2⟩ := hy
    have hlen := h1.1
    refine SatD.seq ?_
    refine SatD.regSeq hΓ follows [0, 1, 5, 15] ?_
    simp [d13r4]
    refine SatD.cond rfl (fun hc => ?_) (fun hc => ?_)
    · simp at hc
      have hc' : y < b.length := by omega
      obtain ⟨p, hp⟩ : ∃ p, a[y] = p := ⟨_, rfl⟩
      obtain ⟨q, hq⟩ : ∃ q, b[y] = q := ⟨_, rfl⟩
      have hgp : a.getD y default = p := by simp [hc, hp]
      have hgq : b.getD y default = q := by simp [hc', hq]
      have hpl : p.tails.length ≤ 140737488355328 := h1.2 p (by rw [← hp]; exact List.getElem_mem hc)
      refine SatD.skip ?_
      simp
      refine SatD.seq ?_
      refine SatD.block ?_ -- 1
      refine SatD.seq ?_
      have hrow := rowAt_edges hc
      have hrow' := rowAt_edges hc'
      rw [hgp] at hrow
      rw [hgq] at hrow'
      refine SatD.regToS hΓ follows [(0, .v (.sl (edgesT a))), (1, .v (.sl (edgesT b))), (5, .v (ti y)), (69, .v (.bool (!decide (headsEq p q))))] ?_ ?_
      · simp [d13r5, hrow, hrow', hc, hc', Edge.enc]
        repeat' (first | apply And.intro | intro _)
        all_goals first | omega | (simp [headsEq, *]; done) | (unfold headsEq at *; omega) | (simp [headsEq, *]; omega) | trace_state
      refine SatD.cond rfl (fun h2 => ?_) (fun h2 => ?_)
      · refine SatD.regSeq hΓ follows [4] ?_
        simp [d13r6]
        refine SatD.ret ?_
        simp at h2
        have : a ≠ b := by
          rintro rfl
          rw [hp] at hq
          subst hq
          exact h2 ⟨rfl, rfl, rfl, rfl, rfl⟩
        simp [d13res, this]
      · simp at h2
        refine SatD.skip ?_
        simp
        refine SatD.regSeq hΓ follows [0, 1, 5, 6] ?_
        simp [d13r7]
        refine SatD.block ?_ -- 2
        refine SatD.loop (fun z : Nat => ⟨DM.look [(0, .v (.sl (edgesT a))), (1, .v (.sl (edgesT b))), (5, .v (ti y)), (6, .v (ti z))], obs [], 3000, 1000, []⟩) (fun z => z ≤ p.tails.length ∧ ∀ i, i < z → p.tails.getD i default = q.tails.getD i default) (fun z => p.tails.length - z) 0 (Le.keep ?_ ?_ ?_ ?_) (by simp) (fun z hz => ?_)
        · simp
        · simp
        · simp
        · simp
        obtain ⟨hz1, hz2⟩ := hz
        refine SatD.seq ?_
        refine SatD.regSeq hΓ follows [0, 1, 5, 6, 77] ?_
        simp [d13r8, hrow, hc, Edge.enc]
        refine SatD.cond rfl (fun hd => ?_) (fun hd => ?_)
        · simp at hd
          have hd' : z < q.tails.length := by rw [← h2.2.2.2.2]; exact hd
          have hz3 := rowAt_ints hd
          have hz4 := rowAt_ints hd'
          refine SatD.skip ?_
          simp
          refine SatD.seq ?_
          refine SatD.block ?_ -- 3
          refine SatD.regSeq hΓ follows [0, 1, 5, 6, 96] ?_
          simp [d13r9, hrow, hrow', hc, hc', Edge.enc, hd, hd', hz3, hz4]
          refine SatD.cond rfl (fun h3 => ?_) (fun h3 => ?_)
          · refine SatD.regSeq hΓ follows [4] ?_
            simp [d13r10]
            refine SatD.ret ?_
            simp at h3
            have : a ≠ b := by
              rintro rfl
              rw [hp] at hq
              subst hq
              exact h3 rfl
            simp [d13res, this]
          · simp at h3
            refine SatD.skip ?_
            simp
            refine SatD.reg hΓ follows [0, 1, 5, 6] ?_
            simp [d13r11]
            refine ⟨z + 1, Le.keep ?_ ?_ ?_ ?_, ⟨?_, ?_⟩, ?_⟩ -- next round
            · simp
            · simp
            · simp
            · simp
              exact (wrap_id (by omega)).symm
            · omega
            · intro i hi
              by_cases e : i = z
              · subst e; simp [hd, hd', h3]
              · exact hz2 i (by omega)
            · omega
        · simp at hd
          refine SatD.exit ?_
          simp -- exit 2
          refine SatD.reg hΓ follows [0, 1, 5] ?_
          simp [d13r12]
          refine ⟨y + 1, Le.keep ?_ ?_ ?_ ?_, ⟨?_, ?_⟩, ?_⟩ -- next round
          · simp
          · simp
          · simp
          · simp
            exact (wrap_id (by omega)).symm
          · omega
          · intro i hi
            by_cases e : i = y
            · subst e
              show a.getD i default = b.getD i default
              rw [hgp, hgq]
              obtain ⟨e1, e2, e3, e4, e5⟩ := h2
              have : p.tails = q.tails := List.ext_getElem e5 fun j hj hj' => by
                have := hz2 j (by omega)
                simpa [hj, hj'] using this
              cases p; cases q; simp_all
            · exact hy2 i (by omega)
          · omega
    · simp at hc
      refine SatD.exit ?_
      simp -- exit 0
      refine SatD.regSeq hΓ follows [4] ?_
      simp [d13r13]
      refine SatD.ret ?_
      have : a = b := List.ext_getElem hab fun j hj hj' => by
        have := hy2 j (by omega)
        simpa [hj, hj'] using this
      simp [d13res, this]
end Go.Proofs
set_option maxRecDepth 100000
set_option linter.unusedVariables false

namespace Go.Proofs
open Go.DM

-- emendate/items.Hypergraph
def d11r0 : List RO := [
  ⟨.box (.tmp 0), (some 2), none, [], none⟩,
  ⟨.box (.tmp 1), (some 3), none, [], none⟩,
  ⟨.alloc [(.v (.int .i64 0)), .nil0], (some 4), none, [], none⟩]
def d11r1 : List RO := [
  ⟨.load 4 true (.tmp 2), (some 14), none, [], none⟩,
  ⟨.load 3 true (.tmp 3), (some 15), none, [], none⟩,
  ⟨.call 32 [(.tmp 14), (.tmp 15)], (some 16), none, [0, 1], none⟩,
  ⟨.alloc [(.v (.int .i64 0)), (.v (.int .i64 0))], (some 5), none, [], none⟩,
  ⟨.store 2 (.tmp 5) (.tmp 16), none, none, [3, 2, 2, 0, 1, 2, 3], none⟩]
def d11r2 : List RO := [
  ⟨.load 2 true (.tmp 5), (some 17), none, [], none⟩,
  ⟨.call 33 [(.tmp 17)], (some 18), none, [0], none⟩,
  ⟨.bin .add (.tmp 18) (.con (.v (.int .i64 1))), (some 19), none, [1], none⟩,
  ⟨.build [(.v (.int .i64 0)), .nil0] [(0, 1, (.tmp 19))], (some 20), none, [2], none⟩,
  ⟨.alloc [(.v (.int .i64 0)), .nil0], (some 6), none, [], none⟩,
  ⟨.store 2 (.tmp 6) (.tmp 20), none, none, [4, 3, 1, 0, 1, 2, 3, 4], none⟩]
def d11r3 : List RO := [
  ⟨.addOff 0 (.tmp 3), (some 21), none, [], none⟩,
  ⟨.load 1 false (.tmp 21), (some 22), none, [0], none⟩,
  ⟨.mov (.con (.v (.int .i64 0))), (some 23), none, [], none⟩]
def d11r4 : List RO := [
  ⟨.bin .lss (.tmp 23) (.tmp 22), (some 24), none, [], none⟩]
def d11r5 : List RO := [
  ⟨.mov (.tmp 23), (some 25), none, [], none⟩,
  ⟨.mov (.tmp 25), (some 7), none, [0, 0], none⟩]
def d11r6 : List RO := [
  ⟨.mov (.tmp 7), (some 26), none, [], none⟩,
  ⟨.mov (.tmp 26), (some 8), none, [0, 0], none⟩]
def d11r7 : List RO := [
  ⟨.mov (.tmp 8), (some 27), none, [], none⟩,
  ⟨.addOff 0 (.tmp 3), (some 28), none, [], none⟩,
  ⟨.load 1 false (.tmp 28), (some 29), none, [1], none⟩,
  ⟨.bin .lss (.tmp 27) (.tmp 29), (some 30), none, [0, 2], none⟩]
def d11r8 : List RO := [
  ⟨.alloc [.nil0], (some 9), none, [], none⟩]
def d11r9 : List RO := [
  ⟨.addOff 3 (.tmp 2), (some 33), none, [], none⟩,
  ⟨.load 1 false (.tmp 33), (some 34), none, [0], none⟩,
  ⟨.len (.tmp 34), (some 35), none, [1], none⟩,
  ⟨.mov (.con (.v (.int .i64 0))), (some 36), none, [], none⟩]
def d11r10 : List RO := [
  ⟨.bin .lss (.tmp 36) (.tmp 35), (some 37), none, [], none⟩]
def d11r11 : List RO := [
  ⟨.mov (.tmp 36), (some 38), none, [], none⟩,
  ⟨.mov (.tmp 38), (some 10), none, [0, 0], none⟩]
def d11r12 : List RO := [
  ⟨.load 4 true (.tmp 2), (some 39), none, [], none⟩,
  ⟨.load 3 true (.tmp 3), (some 40), none, [], none⟩,
  ⟨.mov (.tmp 10), (some 41), none, [], none⟩,
  ⟨.mov (.tmp 7), (some 42), none, [], none⟩,
  ⟨.mov (.tmp 8), (some 43), none, [], none⟩,
  ⟨.call 34 [(.tmp 39), (.tmp 40), (.tmp 41), (.tmp 42), (.tmp 43)], (some 44), none, [0, 1, 2, 3, 4], none⟩]
def d11r13 : List RO := [
  ⟨.alloc [(.v (.int .i64 0)), .nil0, (.v (.int .i64 0)), (.v (.int .i64 0)), (.v (.int .i64 0))], (some 11), none, [], none⟩,
  ⟨.store 5 (.tmp 11) (.tmp 45), none, none, [0, 0], none⟩]
def d11r14 : List RO := [
  ⟨.load 1 false (.tmp 9), (some 46), none, [], none⟩,
  ⟨.load 5 true (.tmp 11), (some 47), none, [], none⟩,
  ⟨.bslice 1 5 [(.v (.int .i64 0)), .nil0, (.v (.int .i64 0)), (.v (.int .i64 0)), (.v (.int .i64 0))] [(0, 5, (.tmp 47))], (some 48), none, [1], none⟩,
  ⟨.append 47 5 56 (.tmp 46) (.tmp 48), (some 49), none, [0, 2], none⟩,
  ⟨.store 1 (.tmp 9) (.tmp 49), none, none, [3, 3, 0, 1, 2, 3], none⟩]
def d11r15 : List RO := [
  ⟨.bin .add (.tmp 36) (.con (.v (.int .i64 1))), (some 50), none, [], none⟩,
  ⟨.mov (.tmp 50), (some 36), none, [0], none⟩]
def d11r16 : List RO := [
  ⟨.load 1 false (.tmp 9), (some 51), none, [], none⟩,
  ⟨.call 35 [(.tmp 51), (.con (.v (.fn (.func 36) [])))], (some 52), none, [0], none⟩]
def d11r16S : List RO := [
  ⟨.load 1 false (.tmp 9), (some 51), none, [], none⟩,
  ⟨.callS 35 [(.tmp 51), (.con (.v (.fn (.func 36) [])))], (some 52), none, [0], none⟩]
def d11r17 : List RO := [
  ⟨.addOff 1 (.tmp 6), (some 53), none, [], none⟩,
  ⟨.load 1 false (.tmp 53), (some 54), none, [0], none⟩,
  ⟨.load 1 false (.tmp 9), (some 55), none, [], none⟩,
  ⟨.append 47 5 56 (.tmp 54) (.tmp 55), (some 56), none, [1, 2], none⟩,
  ⟨.addOff 1 (.tmp 6), (some 57), none, [0, 1, 2, 3], none⟩,
  ⟨.store 1 (.tmp 57) (.tmp 56), none, none, [4, 3, 3, 0, 1, 2, 3], none⟩]
def d11r18 : List RO := [
  ⟨.mov (.tmp 8), (some 31), none, [], none⟩,
  ⟨.bin .add (.tmp 31) (.con (.v (.int .i64 1))), (some 32), none, [0], none⟩,
  ⟨.mov (.tmp 32), (some 8), none, [1, 0, 1], none⟩]
def d11r19 : List RO := [
  ⟨.bin .add (.tmp 23) (.con (.v (.int .i64 1))), (some 58), none, [], none⟩,
  ⟨.mov (.tmp 58), (some 23), none, [0], none⟩]
def d11r20 : List RO := [
  ⟨.addOff 2 (.tmp 3), (some 59), none, [], none⟩,
  ⟨.load 1 false (.tmp 59), (some 60), none, [0], none⟩,
  ⟨.len (.tmp 60), (some 61), none, [1], none⟩,
  ⟨.mov (.con (.v (.int .i64 0))), (some 62), none, [], none⟩]
def d11r21 : List RO := [
  ⟨.bin .lss (.tmp 62) (.tmp 61), (some 63), none, [], none⟩]
def d11r22 : List RO := [
  ⟨.mov (.tmp 62), (some 64), none, [], none⟩,
  ⟨.idxAddr 1 (.tmp 60) (.tmp 62), (some 65), none, [], none⟩,
  ⟨.load 1 false (.tmp 65), (some 66), none, [1], none⟩,
  ⟨.mov (.tmp 64), (some 12), none, [0, 0, 1, 2], none⟩,
  ⟨.mov (.tmp 66), (some 13), none, [2, 3, 0, 1, 2, 3], none⟩]
def d11r23 : List RO := [
  ⟨.mov (.tmp 13), (some 67), none, [], none⟩,
  ⟨.bin .lss (.tmp 67) (.con (.v (.int .i64 1099511627776))), (some 68), none, [0], none⟩]
def d11r24 : List RO := [
  ⟨.addOff 1 (.tmp 6), (some 69), none, [], none⟩,
  ⟨.load 1 false (.tmp 69), (some 70), none, [0], none⟩,
  ⟨.load 2 true (.tmp 5), (some 71), none, [], none⟩,
  ⟨.call 33 [(.tmp 71)], (some 72), none, [2], none⟩,
  ⟨.load 2 true (.tmp 5), (some 73), none, [], none⟩,
  ⟨.addOff 2 (.tmp 2), (some 74), none, [], none⟩,
  ⟨.load 1 false (.tmp 74), (some 75), none, [5], none⟩,
  ⟨.mov (.tmp 12), (some 76), none, [], none⟩,
  ⟨.call 37 [(.tmp 73), (.tmp 75), (.con (.v (.int .i64 0))), (.tmp 76)], (some 77), none, [4, 6, 7, 3], none⟩,
  ⟨.bslice 1 1 [(.v (.int .i64 0))] [(0, 1, (.tmp 77))], (some 78), none, [8], none⟩,
  ⟨.mov (.tmp 13), (some 79), none, [], none⟩,
  ⟨.mov (.tmp 12), (some 80), none, [], none⟩,
  ⟨.build [(.v (.int .i64 0)), (.v (.int .i64 0))] [(0, 1, (.con (.v (.int .i64 (-1))))), (1, 1, (.tmp 80))], (some 81), none, [11], none⟩,
  ⟨.build [(.v (.int .i64 0)), .nil0, (.v (.int .i64 0)), (.v (.int .i64 0)), (.v (.int .i64 0))] [(0, 1, (.tmp 72)), (1, 1, (.tmp 78)), (2, 1, (.tmp 79)), (3, 2, (.tmp 81))], (some 82), none, [3, 9, 10, 12], none⟩,
  ⟨.bslice 1 5 [(.v (.int .i64 0)), .nil0, (.v (.int .i64 0)), (.v (.int .i64 0)), (.v (.int .i64 0))] [(0, 5, (.tmp 82))], (some 83), none, [13], none⟩,
  ⟨.append 47 5 56 (.tmp 70) (.tmp 83), (some 84), none, [1, 14, 8], none⟩,
  ⟨.addOff 1 (.tmp 6), (some 85), none, [0, 1, 2, 3, 4, 5, 6, 7, 8, 9, 10, 11, 12, 13, 14, 15], none⟩,
  ⟨.store 1 (.tmp 85) (.tmp 84), none, none, [16, 15, 15, 0, 1, 2, 3, 4, 5, 6, 7, 8, 9, 10, 11, 12, 13, 14, 15], none⟩]
def d11r25 : List RO := [
  ⟨.bin .add (.tmp 62) (.con (.v (.int .i64 1))), (some 86), none, [], none⟩,
  ⟨.mov (.tmp 86), (some 62), none, [0], none⟩]
def d11r26 : List RO := [
  ⟨.load 2 true (.tmp 6), (some 87), none, [], none⟩,
  ⟨.store 2 (.tmp 4) (.tmp 87), none, none, [0, 0], none⟩]
def d11 : DC := (.seq (.region false d11r0)
  (.seq (.region false d11r1)
  (.seq (.region false d11r2)
  (.seq (.seq (.region false d11r3)
  (.block 0 (.loop (.seq (.region false d11r4)
  (.seq (.cond (.tmp 24) .skip
  (.exit 0))
  (.seq (.block 1 (.seq (.region false d11r5)
  (.seq (.region false d11r6)
  (.block 2 (.loop (.seq (.seq (.region false d11r7)
  (.cond (.tmp 30) .skip
  (.exit 2)))
  (.seq (.block 3 (.seq (.region false d11r8)
  (.seq (.seq (.region false d11r9)
  (.block 4 (.loop (.seq (.region false d11r10)
  (.seq (.cond (.tmp 37) .skip
  (.exit 4))
  (.seq (.block 5 (.seq (.region false d11r11)
  (.seq (.region false d11r12)
  (.block 6 (.rangeF (.tmp 44) [45] (.region false d11r13)
  (.block 7 (.region false d11r14)))))))
  (.region false d11r15)))))))
  (.seq (.region false d11r16)
  (.region false d11r17)))))
  (.region false d11r18))))))))
  (.region false d11r19)))))))
  (.seq (.seq (.region false d11r20)
  (.block 8 (.loop (.seq (.region false d11r21)
  (.seq (.cond (.tmp 63) .skip
  (.exit 8))
  (.seq (.block 9 (.seq (.region false d11r22)
  (.seq (.region false d11r23)
  (.cond (.tmp 68) (.region true d11r24)
  .skip))))
  (.region false d11r25)))))))
  (.seq (.region false d11r26)
  .ret))))))
def d11res : List DRes := [.cell 4 2 true]
theorem c11 [Laid] : CodeOf Try.prog 11 88 d11 d11res := ⟨Try.f11, by kernel_rfl, by kernel_rfl, by kernel_rfl, by kernel_rfl, by kernel_rfl⟩
-- slices.SortStableFunc[[]emendate/api.Hyperedge,emendate/api.Hyperedge]
def d35r0 : List RO := [
  ⟨.mov (.tmp 0), (some 4), none, [], none⟩,
  ⟨.mov (.tmp 0), (some 5), none, [], none⟩,
  ⟨.len (.tmp 5), (some 6), none, [1], none⟩,
  ⟨.mov (.tmp 1), (some 7), none, [], none⟩,
  ⟨.call 48 [(.tmp 4), (.tmp 6), (.tmp 7)], (some 8), none, [0, 2, 3], none⟩]
def d35r0S : List RO := [
  ⟨.mov (.tmp 0), (some 4), none, [], none⟩,
  ⟨.mov (.tmp 0), (some 5), none, [], none⟩,
  ⟨.len (.tmp 5), (some 6), none, [1], none⟩,
  ⟨.mov (.tmp 1), (some 7), none, [], none⟩,
  ⟨.callS 48 [(.tmp 4), (.tmp 6), (.tmp 7)], (some 8), none, [0, 2, 3], none⟩]
def d35 : DC := (.region false d35r0)
def d35res : List DRes := []
theorem c35 [Laid] : CodeOf Try.prog 35 9 d35 d35res := ⟨Try.f35, by kernel_rfl, by kernel_rfl, by kernel_rfl, by kernel_rfl, by kernel_rfl⟩
-- emendate/items.Hypergraph$1
def d36r0 : List RO := [
  ⟨.box (.tmp 0), (some 2), none, [], none⟩,
  ⟨.box (.tmp 1), (some 3), none, [], none⟩,
  ⟨.mov (.con (.v (.int .i64 0))), (some 4), none, [], none⟩]
def d36r1 : List RO := [
  ⟨.addOff 0 (.tmp 2), (some 5), none, [], none⟩,
  ⟨.load 1 false (.tmp 5), (some 6), none, [0], none⟩,
  ⟨.addOff 0 (.tmp 3), (some 7), none, [], none⟩,
  ⟨.load 1 false (.tmp 7), (some 8), none, [2], none⟩,
  ⟨.bin .sub (.tmp 6) (.tmp 8), (some 9), none, [1, 3], none⟩,
  ⟨.mov (.tmp 9), (some 4), none, [4, 0, 1, 2, 3, 4], none⟩]
def d36 : DC := (.seq (.region false d36r0)
  (.seq (.region false d36r1)
  .ret))
def d36res : List DRes := [.slot 4]
theorem c36 [Laid] : CodeOf Try.prog 36 10 d36 d36res := ⟨Try.f36, by kernel_rfl, by kernel_rfl, by kernel_rfl, by kernel_rfl, by kernel_rfl⟩
-- emendate/items.instances$1
def d46r0 : List RO := [
  ⟨.alloc [(.v (.int .i64 0)), .nil0, (.v (.int .i64 0)), (.v (.int .i64 0)), (.v (.int .i64 0))], (some 11), none, [], none⟩]
def d46r1 : List RO := [
  ⟨.load 2 true (.tmp 3), (some 12), none, [], none⟩,
  ⟨.addOff 1 (.tmp 4), (some 13), none, [], none⟩,
  ⟨.load 1 false (.tmp 13), (some 14), none, [1], none⟩,
  ⟨.load 1 false (.tmp 5), (some 15), none, [], none⟩,
  ⟨.load 1 false (.tmp 6), (some 16), none, [], none⟩,
  ⟨.call 37 [(.tmp 12), (.tmp 14), (.tmp 15), (.tmp 16)], (some 17), none, [0, 2, 3, 4], none⟩,
  ⟨.mov (.tmp 2), (some 18), none, [], none⟩,
  ⟨.mov (.tmp 0), (some 19), none, [], none⟩,
  ⟨.minmax false (.tmp 19) (.con (.v (.int .i64 1099511627776))), (some 20), none, [7], none⟩,
  ⟨.load 1 false (.tmp 7), (some 21), none, [], none⟩,
  ⟨.mov (.tmp 1), (some 22), none, [], none⟩,
  ⟨.build [(.v (.int .i64 0)), (.v (.int .i64 0))] [(0, 1, (.tmp 21)), (1, 1, (.tmp 22))], (some 23), none, [9, 10], none⟩,
  ⟨.build [(.v (.int .i64 0)), .nil0, (.v (.int .i64 0)), (.v (.int .i64 0)), (.v (.int .i64 0))] [(0, 1, (.tmp 17)), (1, 1, (.tmp 18)), (2, 1, (.tmp 20)), (3, 2, (.tmp 23))], (some 24), none, [5, 6, 8, 11], none⟩,
  ⟨.store 5 (.tmp 11) (.tmp 24), none, none, [12, 5, 0, 1, 2, 3, 4, 5, 6, 7, 8, 9, 10, 11, 12], none⟩]
def d46 : DC := (.seq (.region false d46r0)
  (.seq (.region true d46r1)
  .ret))
def d46res : List DRes := [.cell 11 5 true]
theorem c46 [Laid] : CodeOf Try.prog 46 25 d46 d46res := ⟨Try.f46, by kernel_rfl, by kernel_rfl, by kernel_rfl, by kernel_rfl, by kernel_rfl⟩
-- emendate/items.instances$2
def d47r0 : List RO := [
  ⟨.addOff 0 (.tmp 1), (some 11), none, [], none⟩,
  ⟨.load 1 false (.tmp 11), (some 12), none, [0], none⟩]
def d47r1 : List RO := [
  ⟨.bin .eql (.tmp 12) (.con (.v (.int .i64 1))), (some 14), none, [], none⟩,
  ⟨.mov (.tmp 14), (some 13), none, [0], none⟩]
def d47r2 : List RO := [
  ⟨.load 1 false (.tmp 2), (some 15), none, [], none⟩,
  ⟨.load 1 false (.tmp 3), (some 16), none, [], none⟩,
  ⟨.bin .eql (.tmp 15) (.tmp 16), (some 17), none, [0, 1], none⟩]
def d47r3 : List RO := [
  ⟨.mov (.tmp 0), (some 18), none, [], none⟩,
  ⟨.load 1 false (.tmp 4), (some 19), none, [], none⟩,
  ⟨.addOff 4 (.tmp 1), (some 20), none, [], none⟩,
  ⟨.load 1 false (.tmp 20), (some 21), none, [2], none⟩,
  ⟨.load 1 false (.tmp 2), (some 22), none, [], none⟩,
  ⟨.callv (.tmp 19) [(.tmp 21), (.tmp 22), (.con .nil0)], (some 23), none, [1, 3, 4], none⟩,
  ⟨.callv (.tmp 18) [(.tmp 23)], (some 24), none, [0, 5, 5], none⟩]
def d47r4 : List RO := [
  ⟨.bin .eql (.tmp 12) (.con (.v (.int .i64 2))), (some 26), none, [], none⟩,
  ⟨.mov (.tmp 26), (some 25), none, [0], none⟩]
def d47r5 : List RO := [
  ⟨.addOff 1 (.tmp 5), (some 27), none, [], none⟩,
  ⟨.load 1 false (.tmp 27), (some 28), none, [0], none⟩,
  ⟨.len (.tmp 28), (some 29), none, [1], none⟩,
  ⟨.mov (.con (.v (.int .i64 0))), (some 30), none, [], none⟩]
def d47r6 : List RO := [
  ⟨.bin .lss (.tmp 30) (.tmp 29), (some 31), none, [], none⟩]
def d47r7 : List RO := [
  ⟨.mov (.tmp 30), (some 32), none, [], none⟩,
  ⟨.idxAddr 5 (.tmp 28) (.tmp 30), (some 33), none, [], none⟩,
  ⟨.load 5 true (.tmp 33), (some 34), none, [1], none⟩,
  ⟨.alloc [(.v (.int .i64 0)), (.v (.int .i64 0)), (.v (.int .i64 0)), (.v (.int .i64 0)), .nil0], (some 9), none, [], none⟩,
  ⟨.mov (.tmp 32), (some 8), none, [0, 0, 1, 2, 3], none⟩,
  ⟨.store 5 (.tmp 9) (.tmp 34), none, none, [3, 2, 4, 0, 1, 2, 3, 4], none⟩]
def d47r8 : List RO := [
  ⟨.addOff 0 (.tmp 9), (some 35), none, [], none⟩,
  ⟨.load 1 false (.tmp 35), (some 36), none, [0], none⟩,
  ⟨.load 1 false (.tmp 2), (some 37), none, [], none⟩,
  ⟨.bin .eql (.tmp 36) (.tmp 37), (some 38), none, [1, 2], none⟩,
  ⟨.mov (.tmp 38), (some 39), none, [3], none⟩,
  ⟨.addOff 1 (.tmp 9), (some 40), (some (39, true)), [4], none⟩,
  ⟨.load 1 false (.tmp 40), (some 41), (some (39, true)), [5, 4], none⟩,
  ⟨.load 1 false (.tmp 3), (some 42), (some (39, true)), [4], none⟩,
  ⟨.bin .eql (.tmp 41) (.tmp 42), (some 43), (some (39, true)), [6, 7, 4], none⟩,
  ⟨.pick (.tmp 39) (.tmp 43) (.con (.v (.bool false))), (some 44), none, [4, 8], none⟩,
  ⟨.mov (.tmp 44), (some 45), none, [9, 4], none⟩,
  ⟨.addOff 2 (.tmp 9), (some 46), (some (45, true)), [10], none⟩,
  ⟨.load 1 false (.tmp 46), (some 47), (some (45, true)), [11, 10], none⟩,
  ⟨.addOff 2 (.tmp 1), (some 48), (some (45, true)), [10], none⟩,
  ⟨.load 1 false (.tmp 48), (some 49), (some (45, true)), [13, 10], none⟩,
  ⟨.bin .eql (.tmp 47) (.tmp 49), (some 50), (some (45, true)), [12, 14, 10], none⟩,
  ⟨.pick (.tmp 45) (.tmp 50) (.con (.v (.bool false))), (some 51), none, [10, 15], none⟩,
  ⟨.mov (.tmp 51), (some 52), none, [16, 10], none⟩,
  ⟨.mov (.tmp 0), (some 53), (some (52, true)), [17], none⟩,
  ⟨.load 1 false (.tmp 4), (some 54), (some (52, true)), [17], none⟩,
  ⟨.addOff 4 (.tmp 1), (some 55), (some (52, true)), [17], none⟩,
  ⟨.load 1 false (.tmp 55), (some 56), (some (52, true)), [20, 17], none⟩,
  ⟨.addOff 3 (.tmp 9), (some 57), (some (52, true)), [17], none⟩,
  ⟨.load 1 false (.tmp 57), (some 58), (some (52, true)), [22, 17], none⟩,
  ⟨.bin .add (.tmp 56) (.tmp 58), (some 59), (some (52, true)), [21, 23, 17], none⟩,
  ⟨.mov (.tmp 8), (some 60), (some (52, true)), [17], none⟩,
  ⟨.callv (.tmp 54) [(.tmp 59), (.tmp 60), (.con .nil0)], (some 61), (some (52, true)), [19, 24, 25, 17, 17], none⟩,
  ⟨.callv (.tmp 53) [(.tmp 61)], (some 62), (some (52, true)), [18, 26, 26, 17], none⟩,
  ⟨.un .not (.tmp 62), (some 63), (some (52, true)), [27, 17], none⟩,
  ⟨.pick (.tmp 52) (.tmp 63) (.con (.v (.bool false))), (some 64), none, [17, 28], none⟩]
def d47r9 : List RO := [
  ⟨.bin .add (.tmp 30) (.con (.v (.int .i64 1))), (some 65), none, [], none⟩,
  ⟨.mov (.tmp 65), (some 30), none, [0], none⟩]
def d47r10 : List RO := [
  ⟨.bin .eql (.tmp 12) (.con (.v (.int .i64 3))), (some 67), none, [], none⟩,
  ⟨.mov (.tmp 67), (some 66), none, [0], none⟩]
def d47r11 : List RO := [
  ⟨.mov (.tmp 0), (some 68), none, [], none⟩,
  ⟨.load 1 false (.tmp 4), (some 69), none, [], none⟩,
  ⟨.addOff 4 (.tmp 1), (some 70), none, [], none⟩,
  ⟨.load 1 false (.tmp 70), (some 71), none, [2], none⟩,
  ⟨.load 1 false (.tmp 2), (some 72), none, [], none⟩,
  ⟨.load 2 true (.tmp 6), (some 73), none, [], none⟩,
  ⟨.addOff 2 (.tmp 1), (some 74), none, [], none⟩,
  ⟨.load 1 false (.tmp 74), (some 75), none, [6], none⟩,
  ⟨.load 1 false (.tmp 2), (some 76), none, [], none⟩,
  ⟨.load 1 false (.tmp 3), (some 77), none, [], none⟩,
  ⟨.call 37 [(.tmp 73), (.tmp 75), (.tmp 76), (.tmp 77)], (some 78), none, [5, 7, 8, 9], none⟩,
  ⟨.bslice 1 1 [(.v (.int .i64 0))] [(0, 1, (.tmp 78))], (some 79), none, [10], none⟩,
  ⟨.callv (.tmp 69) [(.tmp 71), (.tmp 72), (.tmp 79)], (some 80), none, [1, 3, 4, 11, 10], none⟩,
  ⟨.callv (.tmp 68) [(.tmp 80)], (some 81), none, [0, 12, 12], none⟩]
def d47r12 : List RO := [
  ⟨.bin .eql (.tmp 12) (.con (.v (.int .i64 4))), (some 83), none, [], none⟩,
  ⟨.mov (.tmp 83), (some 82), none, [0], none⟩]
def d47r13 : List RO := [
  ⟨.load 1 false (.tmp 2), (some 84), none, [], none⟩,
  ⟨.mov (.tmp 84), (some 10), none, [0, 0], none⟩]
def d47r14 : List RO := [
  ⟨.mov (.tmp 10), (some 85), none, [], none⟩,
  ⟨.load 1 false (.tmp 3), (some 86), none, [], none⟩,
  ⟨.bin .leq (.tmp 85) (.tmp 86), (some 87), none, [0, 1], none⟩]
def d47r15 : List RO := [
  ⟨.mov (.tmp 0), (some 90), none, [], none⟩,
  ⟨.load 1 false (.tmp 4), (some 91), none, [], none⟩,
  ⟨.addOff 4 (.tmp 1), (some 92), none, [], none⟩,
  ⟨.load 1 false (.tmp 92), (some 93), none, [2], none⟩,
  ⟨.mov (.tmp 10), (some 94), none, [], none⟩,
  ⟨.load 2 true (.tmp 6), (some 95), none, [], none⟩,
  ⟨.addOff 2 (.tmp 1), (some 96), none, [], none⟩,
  ⟨.load 1 false (.tmp 96), (some 97), none, [6], none⟩,
  ⟨.load 1 false (.tmp 2), (some 98), none, [], none⟩,
  ⟨.mov (.tmp 10), (some 99), none, [], none⟩,
  ⟨.call 37 [(.tmp 95), (.tmp 97), (.tmp 98), (.tmp 99)], (some 100), none, [5, 7, 8, 9], none⟩,
  ⟨.load 2 true (.tmp 6), (some 101), none, [], none⟩,
  ⟨.addOff 3 (.tmp 1), (some 102), none, [], none⟩,
  ⟨.load 1 false (.tmp 102), (some 103), none, [12], none⟩,
  ⟨.mov (.tmp 10), (some 104), none, [], none⟩,
  ⟨.load 1 false (.tmp 3), (some 105), none, [], none⟩,
  ⟨.call 37 [(.tmp 101), (.tmp 103), (.tmp 104), (.tmp 105)], (some 106), none, [11, 13, 14, 15, 10], none⟩,
  ⟨.bslice 2 1 [(.v (.int .i64 0)), (.v (.int .i64 0))] [(0, 1, (.tmp 100)), (1, 1, (.tmp 106))], (some 107), none, [10, 16], none⟩,
  ⟨.callv (.tmp 91) [(.tmp 93), (.tmp 94), (.tmp 107)], (some 108), none, [1, 3, 4, 17, 16], none⟩,
  ⟨.callv (.tmp 90) [(.tmp 108)], (some 109), none, [0, 18, 18], none⟩,
  ⟨.un .not (.tmp 109), (some 110), none, [19], none⟩]
def d47r16 : List RO := [
  ⟨.mov (.tmp 10), (some 88), none, [], none⟩,
  ⟨.bin .add (.tmp 88) (.con (.v (.int .i64 1))), (some 89), none, [0], none⟩,
  ⟨.mov (.tmp 89), (some 10), none, [1, 0, 1], none⟩]
def d47 : DC := (.seq (.region false d47r0)
  (.block 0 (.seq (.region false d47r1)
  (.cond (.tmp 13) (.seq (.region false d47r2)
  (.cond (.tmp 17) (.region false d47r3)
  .skip))
  (.seq (.region false d47r4)
  (.cond (.tmp 25) (.seq (.region false d47r5)
  (.block 1 (.loop (.seq (.region false d47r6)
  (.seq (.cond (.tmp 31) .skip
  (.exit 1))
  (.seq (.block 2 (.seq (.region false d47r7)
  (.seq (.region false d47r8)
  (.cond (.tmp 64) .ret
  .skip))))
  (.region false d47r9)))))))
  (.seq (.region false d47r10)
  (.cond (.tmp 66) (.region true d47r11)
  (.seq (.region false d47r12)
  (.cond (.tmp 82) (.seq (.region false d47r13)
  (.block 3 (.loop (.seq (.seq (.region false d47r14)
  (.cond (.tmp 87) .skip
  (.exit 3)))
  (.seq (.block 4 (.seq (.region true d47r15)
  (.cond (.tmp 110) .ret
  .skip)))
  (.region false d47r16))))))
  .skip))))))))))
def d47res : List DRes := []
theorem c47 [Laid] : CodeOf Try.prog 47 111 d47 d47res := ⟨Try.f47, by kernel_rfl, by kernel_rfl, by kernel_rfl, by kernel_rfl, by kernel_rfl⟩
-- slices.stableCmpFunc[emendate/api.Hyperedge]
def d48r0 : List RO := [
  ⟨.mov (.con (.v (.int .i64 20))), (some 6), none, [], none⟩]
def d48r1 : List RO := [
  ⟨.mov (.tmp 6), (some 10), none, [], none⟩,
  ⟨.mov (.con (.v (.int .i64 0))), (some 7), none, [], none⟩,
  ⟨.mov (.tmp 10), (some 8), none, [0, 1, 0, 1], none⟩]
def d48r2 : List RO := [
  ⟨.mov (.tmp 8), (some 11), none, [], none⟩,
  ⟨.mov (.tmp 1), (some 12), none, [], none⟩,
  ⟨.bin .leq (.tmp 11) (.tmp 12), (some 13), none, [0, 1], none⟩]
def d48r3 : List RO := [
  ⟨.mov (.tmp 0), (some 14), none, [], none⟩,
  ⟨.mov (.tmp 7), (some 15), none, [], none⟩,
  ⟨.mov (.tmp 8), (some 16), none, [], none⟩,
  ⟨.mov (.tmp 2), (some 17), none, [], none⟩,
  ⟨.call 49 [(.tmp 14), (.tmp 15), (.tmp 16), (.tmp 17)], (some 18), none, [0, 1, 2, 3], none⟩]
def d48r3S : List RO := [
  ⟨.mov (.tmp 0), (some 14), none, [], none⟩,
  ⟨.mov (.tmp 7), (some 15), none, [], none⟩,
  ⟨.mov (.tmp 8), (some 16), none, [], none⟩,
  ⟨.mov (.tmp 2), (some 17), none, [], none⟩,
  ⟨.callS 49 [(.tmp 14), (.tmp 15), (.tmp 16), (.tmp 17)], (some 18), none, [0, 1, 2, 3], none⟩]
def d48r4 : List RO := [
  ⟨.mov (.tmp 8), (some 19), none, [], none⟩,
  ⟨.mov (.tmp 19), (some 7), none, [0, 0], none⟩]
def d48r5 : List RO := [
  ⟨.mov (.tmp 8), (some 20), none, [], none⟩,
  ⟨.mov (.tmp 6), (some 21), none, [], none⟩,
  ⟨.bin .add (.tmp 20) (.tmp 21), (some 22), none, [0, 1], none⟩,
  ⟨.mov (.tmp 22), (some 8), none, [2, 0, 1, 2], none⟩]
def d48r6 : List RO := [
  ⟨.mov (.tmp 0), (some 23), none, [], none⟩,
  ⟨.mov (.tmp 7), (some 24), none, [], none⟩,
  ⟨.mov (.tmp 1), (some 25), none, [], none⟩,
  ⟨.mov (.tmp 2), (some 26), none, [], none⟩,
  ⟨.call 49 [(.tmp 23), (.tmp 24), (.tmp 25), (.tmp 26)], (some 27), none, [0, 1, 2, 3], none⟩]
def d48r6S : List RO := [
  ⟨.mov (.tmp 0), (some 23), none, [], none⟩,
  ⟨.mov (.tmp 7), (some 24), none, [], none⟩,
  ⟨.mov (.tmp 1), (some 25), none, [], none⟩,
  ⟨.mov (.tmp 2), (some 26), none, [], none⟩,
  ⟨.callS 49 [(.tmp 23), (.tmp 24), (.tmp 25), (.tmp 26)], (some 27), none, [0, 1, 2, 3], none⟩]
def d48r7 : List RO := [
  ⟨.mov (.tmp 6), (some 28), none, [], none⟩,
  ⟨.mov (.tmp 1), (some 29), none, [], none⟩,
  ⟨.bin .lss (.tmp 28) (.tmp 29), (some 30), none, [0, 1], none⟩]
def d48r8 : List RO := [
  ⟨.mov (.tmp 6), (some 31), none, [], none⟩,
  ⟨.bin .mul (.con (.v (.int .i64 2))) (.tmp 31), (some 32), none, [0], none⟩,
  ⟨.mov (.con (.v (.int .i64 0))), (some 7), none, [], none⟩,
  ⟨.mov (.tmp 32), (some 8), none, [1, 2, 0, 1, 2], none⟩]
def d48r9 : List RO := [
  ⟨.mov (.tmp 8), (some 33), none, [], none⟩,
  ⟨.mov (.tmp 1), (some 34), none, [], none⟩,
  ⟨.bin .leq (.tmp 33) (.tmp 34), (some 35), none, [0, 1], none⟩]
def d48r10 : List RO := [
  ⟨.mov (.tmp 0), (some 36), none, [], none⟩,
  ⟨.mov (.tmp 7), (some 37), none, [], none⟩,
  ⟨.mov (.tmp 7), (some 38), none, [], none⟩,
  ⟨.mov (.tmp 6), (some 39), none, [], none⟩,
  ⟨.bin .add (.tmp 38) (.tmp 39), (some 40), none, [2, 3], none⟩,
  ⟨.mov (.tmp 8), (some 41), none, [], none⟩,
  ⟨.mov (.tmp 2), (some 42), none, [], none⟩,
  ⟨.call 50 [(.tmp 36), (.tmp 37), (.tmp 40), (.tmp 41), (.tmp 42)], (some 43), none, [0, 1, 4, 5, 6], none⟩]
def d48r10S : List RO := [
  ⟨.mov (.tmp 0), (some 36), none, [], none⟩,
  ⟨.mov (.tmp 7), (some 37), none, [], none⟩,
  ⟨.mov (.tmp 7), (some 38), none, [], none⟩,
  ⟨.mov (.tmp 6), (some 39), none, [], none⟩,
  ⟨.bin .add (.tmp 38) (.tmp 39), (some 40), none, [2, 3], none⟩,
  ⟨.mov (.tmp 8), (some 41), none, [], none⟩,
  ⟨.mov (.tmp 2), (some 42), none, [], none⟩,
  ⟨.callS 50 [(.tmp 36), (.tmp 37), (.tmp 40), (.tmp 41), (.tmp 42)], (some 43), none, [0, 1, 4, 5, 6], none⟩]
def d48r11 : List RO := [
  ⟨.mov (.tmp 8), (some 44), none, [], none⟩,
  ⟨.mov (.tmp 44), (some 7), none, [0, 0], none⟩]
def d48r12 : List RO := [
  ⟨.mov (.tmp 8), (some 45), none, [], none⟩,
  ⟨.mov (.tmp 6), (some 46), none, [], none⟩,
  ⟨.bin .mul (.con (.v (.int .i64 2))) (.tmp 46), (some 47), none, [1], none⟩,
  ⟨.bin .add (.tmp 45) (.tmp 47), (some 48), none, [0, 2], none⟩,
  ⟨.mov (.tmp 48), (some 8), none, [3, 0, 1, 2, 3], none⟩]
def d48r13 : List RO := [
  ⟨.mov (.tmp 7), (some 49), none, [], none⟩,
  ⟨.mov (.tmp 6), (some 50), none, [], none⟩,
  ⟨.bin .add (.tmp 49) (.tmp 50), (some 51), none, [0, 1], none⟩,
  ⟨.mov (.tmp 51), (some 9), none, [2, 0, 1, 2], none⟩]
def d48r14 : List RO := [
  ⟨.mov (.tmp 9), (some 52), none, [], none⟩,
  ⟨.mov (.tmp 1), (some 53), none, [], none⟩,
  ⟨.bin .lss (.tmp 52) (.tmp 53), (some 54), none, [0, 1], none⟩]
def d48r15 : List RO := [
  ⟨.mov (.tmp 0), (some 55), none, [], none⟩,
  ⟨.mov (.tmp 7), (some 56), none, [], none⟩,
  ⟨.mov (.tmp 9), (some 57), none, [], none⟩,
  ⟨.mov (.tmp 1), (some 58), none, [], none⟩,
  ⟨.mov (.tmp 2), (some 59), none, [], none⟩,
  ⟨.call 50 [(.tmp 55), (.tmp 56), (.tmp 57), (.tmp 58), (.tmp 59)], (some 60), none, [0, 1, 2, 3, 4], none⟩]
def d48r15S : List RO := [
  ⟨.mov (.tmp 0), (some 55), none, [], none⟩,
  ⟨.mov (.tmp 7), (some 56), none, [], none⟩,
  ⟨.mov (.tmp 9), (some 57), none, [], none⟩,
  ⟨.mov (.tmp 1), (some 58), none, [], none⟩,
  ⟨.mov (.tmp 2), (some 59), none, [], none⟩,
  ⟨.callS 50 [(.tmp 55), (.tmp 56), (.tmp 57), (.tmp 58), (.tmp 59)], (some 60), none, [0, 1, 2, 3, 4], none⟩]
def d48r16 : List RO := [
  ⟨.mov (.tmp 6), (some 61), none, [], none⟩,
  ⟨.bin .mul (.tmp 61) (.con (.v (.int .i64 2))), (some 62), none, [0], none⟩,
  ⟨.mov (.tmp 62), (some 6), none, [1, 0, 1], none⟩]
def d48 : DC := (.seq (.region false d48r0)
  (.seq (.region false d48r1)
  (.seq (.block 0 (.loop (.seq (.seq (.region false d48r2)
  (.cond (.tmp 13) .skip
  (.exit 0)))
  (.block 1 (.seq (.region false d48r3)
  (.seq (.region false d48r4)
  (.region false d48r5)))))))
  (.seq (.region false d48r6)
  (.block 2 (.loop (.seq (.seq (.region false d48r7)
  (.cond (.tmp 30) .skip
  (.exit 2)))
  (.block 3 (.seq (.region false d48r8)
  (.seq (.block 4 (.loop (.seq (.seq (.region false d48r9)
  (.cond (.tmp 35) .skip
  (.exit 4)))
  (.block 5 (.seq (.region false d48r10)
  (.seq (.region false d48r11)
  (.region false d48r12)))))))
  (.seq (.seq (.region false d48r13)
  (.seq (.region false d48r14)
  (.cond (.tmp 54) (.region false d48r15)
  .skip)))
  (.region false d48r16))))))))))))
def d48res : List DRes := []
theorem c48 [Laid] : CodeOf Try.prog 48 63 d48 d48res := ⟨Try.f48, by kernel_rfl, by kernel_rfl, by kernel_rfl, by kernel_rfl, by kernel_rfl⟩
-- slices.insertionSortCmpFunc[emendate/api.Hyperedge]
def d49r0 : List RO := [
  ⟨.mov (.tmp 1), (some 10), none, [], none⟩,
  ⟨.bin .add (.tmp 10) (.con (.v (.int .i64 1))), (some 11), none, [0], none⟩,
  ⟨.mov (.tmp 11), (some 8), none, [1, 0, 1], none⟩]
def d49r1 : List RO := [
  ⟨.mov (.tmp 8), (some 12), none, [], none⟩,
  ⟨.mov (.tmp 2), (some 13), none, [], none⟩,
  ⟨.bin .lss (.tmp 12) (.tmp 13), (some 14), none, [0, 1], none⟩]
def d49r2 : List RO := [
  ⟨.mov (.tmp 8), (some 17), none, [], none⟩,
  ⟨.mov (.tmp 17), (some 9), none, [0, 0], none⟩]
def d49r3 : List RO := [
  ⟨.mov (.tmp 9), (some 18), none, [], none⟩,
  ⟨.mov (.tmp 1), (some 19), none, [], none⟩,
  ⟨.bin .gtr (.tmp 18) (.tmp 19), (some 20), none, [0, 1], none⟩,
  ⟨.mov (.tmp 20), (some 21), none, [2], none⟩,
  ⟨.mov (.tmp 3), (some 22), (some (21, true)), [3], none⟩,
  ⟨.mov (.tmp 0), (some 23), (some (21, true)), [3], none⟩,
  ⟨.mov (.tmp 9), (some 24), (some (21, true)), [3], none⟩,
  ⟨.idxAddr 5 (.tmp 23) (.tmp 24), (some 25), (some (21, true)), [5, 6, 3], none⟩,
  ⟨.load 5 true (.tmp 25), (some 26), (some (21, true)), [7, 3], none⟩,
  ⟨.mov (.tmp 0), (some 27), (some (21, true)), [3], none⟩,
  ⟨.mov (.tmp 9), (some 28), (some (21, true)), [3], none⟩,
  ⟨.bin .sub (.tmp 28) (.con (.v (.int .i64 1))), (some 29), (some (21, true)), [10, 3], none⟩,
  ⟨.idxAddr 5 (.tmp 27) (.tmp 29), (some 30), (some (21, true)), [9, 11, 3], none⟩,
  ⟨.load 5 true (.tmp 30), (some 31), (some (21, true)), [12, 3], none⟩,
  ⟨.callv (.tmp 22) [(.tmp 26), (.tmp 31)], (some 32), (some (21, true)), [4, 8, 13, 3, 3], none⟩,
  ⟨.bin .lss (.tmp 32) (.con (.v (.int .i64 0))), (some 33), (some (21, true)), [14, 3], none⟩,
  ⟨.pick (.tmp 21) (.tmp 33) (.con (.v (.bool false))), (some 34), none, [3, 15], none⟩]
def d49r4 : List RO := [
  ⟨.mov (.tmp 0), (some 37), none, [], none⟩,
  ⟨.mov (.tmp 9), (some 38), none, [], none⟩,
  ⟨.mov (.tmp 0), (some 39), none, [], none⟩,
  ⟨.mov (.tmp 9), (some 40), none, [], none⟩,
  ⟨.bin .sub (.tmp 40) (.con (.v (.int .i64 1))), (some 41), none, [3], none⟩,
  ⟨.mov (.tmp 0), (some 42), none, [], none⟩,
  ⟨.mov (.tmp 9), (some 43), none, [], none⟩,
  ⟨.bin .sub (.tmp 43) (.con (.v (.int .i64 1))), (some 44), none, [6], none⟩,
  ⟨.idxAddr 5 (.tmp 42) (.tmp 44), (some 45), none, [5, 7], none⟩,
  ⟨.load 5 true (.tmp 45), (some 46), none, [8], none⟩,
  ⟨.mov (.tmp 0), (some 47), none, [], none⟩,
  ⟨.mov (.tmp 9), (some 48), none, [], none⟩,
  ⟨.idxAddr 5 (.tmp 47) (.tmp 48), (some 49), none, [10, 11], none⟩,
  ⟨.load 5 true (.tmp 49), (some 50), none, [12], none⟩,
  ⟨.idxAddr 5 (.tmp 37) (.tmp 38), (some 51), none, [0, 1, 0, 1, 5, 6, 7, 8, 9, 13], none⟩,
  ⟨.store 5 (.tmp 51) (.tmp 46), none, none, [14, 9, 0, 1, 5, 6, 7, 8, 9, 13], none⟩,
  ⟨.idxAddr 5 (.tmp 39) (.tmp 41), (some 52), none, [2, 4, 0, 1, 2, 3, 4, 5, 6, 7, 8, 9, 10, 11, 12, 13, 14, 15], none⟩,
  ⟨.store 5 (.tmp 52) (.tmp 50), none, none, [16, 13, 15, 0, 1, 2, 3, 4, 5, 6, 7, 8, 9, 10, 11, 12, 13, 14, 15], none⟩]
def d49r5 : List RO := [
  ⟨.mov (.tmp 9), (some 35), none, [], none⟩,
  ⟨.bin .sub (.tmp 35) (.con (.v (.int .i64 1))), (some 36), none, [0], none⟩,
  ⟨.mov (.tmp 36), (some 9), none, [1, 0, 1], none⟩]
def d49r6 : List RO := [
  ⟨.mov (.tmp 8), (some 15), none, [], none⟩,
  ⟨.bin .add (.tmp 15) (.con (.v (.int .i64 1))), (some 16), none, [0], none⟩,
  ⟨.mov (.tmp 16), (some 8), none, [1, 0, 1], none⟩]
def d49 : DC := (.seq (.region false d49r0)
  (.block 0 (.loop (.seq (.seq (.region false d49r1)
  (.cond (.tmp 14) .skip
  (.exit 0)))
  (.seq (.block 1 (.seq (.region false d49r2)
  (.block 2 (.loop (.seq (.seq (.region true d49r3)
  (.cond (.tmp 34) .skip
  (.exit 2)))
  (.seq (.block 3 (.region true d49r4))
  (.region false d49r5)))))))
  (.region false d49r6))))))
def d49res : List DRes := []
theorem c49 [Laid] : CodeOf Try.prog 49 53 d49 d49res := ⟨Try.f49, by kernel_rfl, by kernel_rfl, by kernel_rfl, by kernel_rfl, by kernel_rfl⟩
-- slices.symMergeCmpFunc[emendate/api.Hyperedge]
def d50r0 : List RO := [
  ⟨.mov (.tmp 2), (some 25), none, [], none⟩,
  ⟨.mov (.tmp 1), (some 26), none, [], none⟩,
  ⟨.bin .sub (.tmp 25) (.tmp 26), (some 27), none, [0, 1], none⟩,
  ⟨.bin .eql (.tmp 27) (.con (.v (.int .i64 1))), (some 28), none, [2], none⟩]
def d50r1 : List RO := [
  ⟨.mov (.tmp 2), (some 29), none, [], none⟩,
  ⟨.mov (.tmp 29), (some 10), none, [0, 0], none⟩]
def d50r2 : List RO := [
  ⟨.mov (.tmp 3), (some 30), none, [], none⟩,
  ⟨.mov (.tmp 30), (some 11), none, [0, 0], none⟩]
def d50r3 : List RO := [
  ⟨.mov (.tmp 10), (some 31), none, [], none⟩,
  ⟨.mov (.tmp 11), (some 32), none, [], none⟩,
  ⟨.bin .lss (.tmp 31) (.tmp 32), (some 33), none, [0, 1], none⟩]
def d50r4 : List RO := [
  ⟨.mov (.tmp 10), (some 34), none, [], none⟩,
  ⟨.mov (.tmp 11), (some 35), none, [], none⟩,
  ⟨.bin .add (.tmp 34) (.tmp 35), (some 36), none, [0, 1], none⟩,
  ⟨.conv .u64 (.tmp 36), (some 37), none, [2], none⟩,
  ⟨.bin .shr (.tmp 37) (.con (.v (.int .u64 1))), (some 38), none, [3], none⟩,
  ⟨.conv .i64 (.tmp 38), (some 39), none, [4], none⟩,
  ⟨.mov (.tmp 39), (some 12), none, [5, 0, 1, 2, 3, 4, 5], none⟩]
def d50r5 : List RO := [
  ⟨.mov (.tmp 4), (some 40), none, [], none⟩,
  ⟨.mov (.tmp 0), (some 41), none, [], none⟩,
  ⟨.mov (.tmp 12), (some 42), none, [], none⟩,
  ⟨.idxAddr 5 (.tmp 41) (.tmp 42), (some 43), none, [1, 2], none⟩,
  ⟨.load 5 true (.tmp 43), (some 44), none, [3], none⟩,
  ⟨.mov (.tmp 0), (some 45), none, [], none⟩,
  ⟨.mov (.tmp 1), (some 46), none, [], none⟩,
  ⟨.idxAddr 5 (.tmp 45) (.tmp 46), (some 47), none, [5, 6], none⟩,
  ⟨.load 5 true (.tmp 47), (some 48), none, [7], none⟩,
  ⟨.callv (.tmp 40) [(.tmp 44), (.tmp 48)], (some 49), none, [0, 4, 8], none⟩,
  ⟨.bin .lss (.tmp 49) (.con (.v (.int .i64 0))), (some 50), none, [9], none⟩]
def d50r6 : List RO := [
  ⟨.mov (.tmp 12), (some 51), none, [], none⟩,
  ⟨.bin .add (.tmp 51) (.con (.v (.int .i64 1))), (some 52), none, [0], none⟩,
  ⟨.mov (.tmp 52), (some 10), none, [1, 0, 1], none⟩]
def d50r7 : List RO := [
  ⟨.mov (.tmp 12), (some 53), none, [], none⟩,
  ⟨.mov (.tmp 53), (some 11), none, [0, 0], none⟩]
def d50r8 : List RO := [
  ⟨.mov (.tmp 1), (some 54), none, [], none⟩,
  ⟨.mov (.tmp 54), (some 13), none, [0, 0], none⟩]
def d50r9 : List RO := [
  ⟨.mov (.tmp 13), (some 55), none, [], none⟩,
  ⟨.mov (.tmp 10), (some 56), none, [], none⟩,
  ⟨.bin .sub (.tmp 56) (.con (.v (.int .i64 1))), (some 57), none, [1], none⟩,
  ⟨.bin .lss (.tmp 55) (.tmp 57), (some 58), none, [0, 2], none⟩]
def d50r10 : List RO := [
  ⟨.mov (.tmp 0), (some 61), none, [], none⟩,
  ⟨.mov (.tmp 13), (some 62), none, [], none⟩,
  ⟨.mov (.tmp 0), (some 63), none, [], none⟩,
  ⟨.mov (.tmp 13), (some 64), none, [], none⟩,
  ⟨.bin .add (.tmp 64) (.con (.v (.int .i64 1))), (some 65), none, [3], none⟩,
  ⟨.mov (.tmp 0), (some 66), none, [], none⟩,
  ⟨.mov (.tmp 13), (some 67), none, [], none⟩,
  ⟨.bin .add (.tmp 67) (.con (.v (.int .i64 1))), (some 68), none, [6], none⟩,
  ⟨.idxAddr 5 (.tmp 66) (.tmp 68), (some 69), none, [5, 7], none⟩,
  ⟨.load 5 true (.tmp 69), (some 70), none, [8], none⟩,
  ⟨.mov (.tmp 0), (some 71), none, [], none⟩,
  ⟨.mov (.tmp 13), (some 72), none, [], none⟩,
  ⟨.idxAddr 5 (.tmp 71) (.tmp 72), (some 73), none, [10, 11], none⟩,
  ⟨.load 5 true (.tmp 73), (some 74), none, [12], none⟩,
  ⟨.idxAddr 5 (.tmp 61) (.tmp 62), (some 75), none, [0, 1, 0, 1, 5, 6, 7, 8, 9, 13], none⟩,
  ⟨.store 5 (.tmp 75) (.tmp 70), none, none, [14, 9, 0, 1, 5, 6, 7, 8, 9, 13], none⟩,
  ⟨.idxAddr 5 (.tmp 63) (.tmp 65), (some 76), none, [2, 4, 0, 1, 2, 3, 4, 5, 6, 7, 8, 9, 10, 11, 12, 13, 14, 15], none⟩,
  ⟨.store 5 (.tmp 76) (.tmp 74), none, none, [16, 13, 15, 0, 1, 2, 3, 4, 5, 6, 7, 8, 9, 10, 11, 12, 13, 14, 15], none⟩]
def d50r11 : List RO := [
  ⟨.mov (.tmp 13), (some 59), none, [], none⟩,
  ⟨.bin .add (.tmp 59) (.con (.v (.int .i64 1))), (some 60), none, [0], none⟩,
  ⟨.mov (.tmp 60), (some 13), none, [1, 0, 1], none⟩]
def d50r12 : List RO := [
  ⟨.mov (.tmp 3), (some 77), none, [], none⟩,
  ⟨.mov (.tmp 2), (some 78), none, [], none⟩,
  ⟨.bin .sub (.tmp 77) (.tmp 78), (some 79), none, [0, 1], none⟩,
  ⟨.bin .eql (.tmp 79) (.con (.v (.int .i64 1))), (some 80), none, [2], none⟩]
def d50r13 : List RO := [
  ⟨.mov (.tmp 1), (some 81), none, [], none⟩,
  ⟨.mov (.tmp 81), (some 14), none, [0, 0], none⟩]
def d50r14 : List RO := [
  ⟨.mov (.tmp 2), (some 82), none, [], none⟩,
  ⟨.mov (.tmp 82), (some 15), none, [0, 0], none⟩]
def d50r15 : List RO := [
  ⟨.mov (.tmp 14), (some 83), none, [], none⟩,
  ⟨.mov (.tmp 15), (some 84), none, [], none⟩,
  ⟨.bin .lss (.tmp 83) (.tmp 84), (some 85), none, [0, 1], none⟩]
def d50r16 : List RO := [
  ⟨.mov (.tmp 14), (some 86), none, [], none⟩,
  ⟨.mov (.tmp 15), (some 87), none, [], none⟩,
  ⟨.bin .add (.tmp 86) (.tmp 87), (some 88), none, [0, 1], none⟩,
  ⟨.conv .u64 (.tmp 88), (some 89), none, [2], none⟩,
  ⟨.bin .shr (.tmp 89) (.con (.v (.int .u64 1))), (some 90), none, [3], none⟩,
  ⟨.conv .i64 (.tmp 90), (some 91), none, [4], none⟩,
  ⟨.mov (.tmp 91), (some 16), none, [5, 0, 1, 2, 3, 4, 5], none⟩]
def d50r17 : List RO := [
  ⟨.mov (.tmp 4), (some 92), none, [], none⟩,
  ⟨.mov (.tmp 0), (some 93), none, [], none⟩,
  ⟨.mov (.tmp 2), (some 94), none, [], none⟩,
  ⟨.idxAddr 5 (.tmp 93) (.tmp 94), (some 95), none, [1, 2], none⟩,
  ⟨.load 5 true (.tmp 95), (some 96), none, [3], none⟩,
  ⟨.mov (.tmp 0), (some 97), none, [], none⟩,
  ⟨.mov (.tmp 16), (some 98), none, [], none⟩,
  ⟨.idxAddr 5 (.tmp 97) (.tmp 98), (some 99), none, [5, 6], none⟩,
  ⟨.load 5 true (.tmp 99), (some 100), none, [7], none⟩,
  ⟨.callv (.tmp 92) [(.tmp 96), (.tmp 100)], (some 101), none, [0, 4, 8], none⟩,
  ⟨.bin .lss (.tmp 101) (.con (.v (.int .i64 0))), (some 102), none, [9], none⟩,
  ⟨.un .not (.tmp 102), (some 103), none, [10], none⟩]
def d50r18 : List RO := [
  ⟨.mov (.tmp 16), (some 104), none, [], none⟩,
  ⟨.bin .add (.tmp 104) (.con (.v (.int .i64 1))), (some 105), none, [0], none⟩,
  ⟨.mov (.tmp 105), (some 14), none, [1, 0, 1], none⟩]
def d50r19 : List RO := [
  ⟨.mov (.tmp 16), (some 106), none, [], none⟩,
  ⟨.mov (.tmp 106), (some 15), none, [0, 0], none⟩]
def d50r20 : List RO := [
  ⟨.mov (.tmp 2), (some 107), none, [], none⟩,
  ⟨.mov (.tmp 107), (some 17), none, [0, 0], none⟩]
def d50r21 : List RO := [
  ⟨.mov (.tmp 17), (some 108), none, [], none⟩,
  ⟨.mov (.tmp 14), (some 109), none, [], none⟩,
  ⟨.bin .gtr (.tmp 108) (.tmp 109), (some 110), none, [0, 1], none⟩]
def d50r22 : List RO := [
  ⟨.mov (.tmp 0), (some 113), none, [], none⟩,
  ⟨.mov (.tmp 17), (some 114), none, [], none⟩,
  ⟨.mov (.tmp 0), (some 115), none, [], none⟩,
  ⟨.mov (.tmp 17), (some 116), none, [], none⟩,
  ⟨.bin .sub (.tmp 116) (.con (.v (.int .i64 1))), (some 117), none, [3], none⟩,
  ⟨.mov (.tmp 0), (some 118), none, [], none⟩,
  ⟨.mov (.tmp 17), (some 119), none, [], none⟩,
  ⟨.bin .sub (.tmp 119) (.con (.v (.int .i64 1))), (some 120), none, [6], none⟩,
  ⟨.idxAddr 5 (.tmp 118) (.tmp 120), (some 121), none, [5, 7], none⟩,
  ⟨.load 5 true (.tmp 121), (some 122), none, [8], none⟩,
  ⟨.mov (.tmp 0), (some 123), none, [], none⟩,
  ⟨.mov (.tmp 17), (some 124), none, [], none⟩,
  ⟨.idxAddr 5 (.tmp 123) (.tmp 124), (some 125), none, [10, 11], none⟩,
  ⟨.load 5 true (.tmp 125), (some 126), none, [12], none⟩,
  ⟨.idxAddr 5 (.tmp 113) (.tmp 114), (some 127), none, [0, 1, 0, 1, 5, 6, 7, 8, 9, 13], none⟩,
  ⟨.store 5 (.tmp 127) (.tmp 122), none, none, [14, 9, 0, 1, 5, 6, 7, 8, 9, 13], none⟩,
  ⟨.idxAddr 5 (.tmp 115) (.tmp 117), (some 128), none, [2, 4, 0, 1, 2, 3, 4, 5, 6, 7, 8, 9, 10, 11, 12, 13, 14, 15], none⟩,
  ⟨.store 5 (.tmp 128) (.tmp 126), none, none, [16, 13, 15, 0, 1, 2, 3, 4, 5, 6, 7, 8, 9, 10, 11, 12, 13, 14, 15], none⟩]
def d50r23 : List RO := [
  ⟨.mov (.tmp 17), (some 111), none, [], none⟩,
  ⟨.bin .sub (.tmp 111) (.con (.v (.int .i64 1))), (some 112), none, [0], none⟩,
  ⟨.mov (.tmp 112), (some 17), none, [1, 0, 1], none⟩]
def d50r24 : List RO := [
  ⟨.mov (.tmp 1), (some 129), none, [], none⟩,
  ⟨.mov (.tmp 3), (some 130), none, [], none⟩,
  ⟨.bin .add (.tmp 129) (.tmp 130), (some 131), none, [0, 1], none⟩,
  ⟨.conv .u64 (.tmp 131), (some 132), none, [2], none⟩,
  ⟨.bin .shr (.tmp 132) (.con (.v (.int .u64 1))), (some 133), none, [3], none⟩,
  ⟨.conv .i64 (.tmp 133), (some 134), none, [4], none⟩,
  ⟨.mov (.tmp 134), (some 18), none, [5, 0, 1, 2, 3, 4, 5], none⟩]
def d50r25 : List RO := [
  ⟨.mov (.tmp 18), (some 135), none, [], none⟩,
  ⟨.mov (.tmp 2), (some 136), none, [], none⟩,
  ⟨.bin .add (.tmp 135) (.tmp 136), (some 137), none, [0, 1], none⟩,
  ⟨.mov (.tmp 137), (some 19), none, [2, 0, 1, 2], none⟩]
def d50r26 : List RO := [
  ⟨.mov (.con (.v (.int .i64 0))), (some 20), none, [], none⟩,
  ⟨.mov (.con (.v (.int .i64 0))), (some 21), none, [0], none⟩]
def d50r27 : List RO := [
  ⟨.mov (.tmp 2), (some 138), none, [], none⟩,
  ⟨.mov (.tmp 18), (some 139), none, [], none⟩,
  ⟨.bin .gtr (.tmp 138) (.tmp 139), (some 140), none, [0, 1], none⟩]
def d50r28 : List RO := [
  ⟨.mov (.tmp 19), (some 141), none, [], none⟩,
  ⟨.mov (.tmp 3), (some 142), none, [], none⟩,
  ⟨.bin .sub (.tmp 141) (.tmp 142), (some 143), none, [0, 1], none⟩,
  ⟨.mov (.tmp 143), (some 20), none, [2, 0, 1, 2], none⟩]
def d50r29 : List RO := [
  ⟨.mov (.tmp 18), (some 144), none, [], none⟩,
  ⟨.mov (.tmp 144), (some 21), none, [0, 0], none⟩]
def d50r30 : List RO := [
  ⟨.mov (.tmp 1), (some 145), none, [], none⟩,
  ⟨.mov (.tmp 145), (some 20), none, [0, 0], none⟩]
def d50r31 : List RO := [
  ⟨.mov (.tmp 2), (some 146), none, [], none⟩,
  ⟨.mov (.tmp 146), (some 21), none, [0, 0], none⟩]
def d50r32 : List RO := [
  ⟨.mov (.tmp 19), (some 147), none, [], none⟩,
  ⟨.bin .sub (.tmp 147) (.con (.v (.int .i64 1))), (some 148), none, [0], none⟩,
  ⟨.mov (.tmp 148), (some 22), none, [1, 0, 1], none⟩]
def d50r33 : List RO := [
  ⟨.mov (.tmp 20), (some 149), none, [], none⟩,
  ⟨.mov (.tmp 21), (some 150), none, [], none⟩,
  ⟨.bin .lss (.tmp 149) (.tmp 150), (some 151), none, [0, 1], none⟩]
def d50r34 : List RO := [
  ⟨.mov (.tmp 20), (some 152), none, [], none⟩,
  ⟨.mov (.tmp 21), (some 153), none, [], none⟩,
  ⟨.bin .add (.tmp 152) (.tmp 153), (some 154), none, [0, 1], none⟩,
  ⟨.conv .u64 (.tmp 154), (some 155), none, [2], none⟩,
  ⟨.bin .shr (.tmp 155) (.con (.v (.int .u64 1))), (some 156), none, [3], none⟩,
  ⟨.conv .i64 (.tmp 156), (some 157), none, [4], none⟩,
  ⟨.mov (.tmp 157), (some 23), none, [5, 0, 1, 2, 3, 4, 5], none⟩]
def d50r35 : List RO := [
  ⟨.mov (.tmp 4), (some 158), none, [], none⟩,
  ⟨.mov (.tmp 0), (some 159), none, [], none⟩,
  ⟨.mov (.tmp 22), (some 160), none, [], none⟩,
  ⟨.mov (.tmp 23), (some 161), none, [], none⟩,
  ⟨.bin .sub (.tmp 160) (.tmp 161), (some 162), none, [2, 3], none⟩,
  ⟨.idxAddr 5 (.tmp 159) (.tmp 162), (some 163), none, [1, 4], none⟩,
  ⟨.load 5 true (.tmp 163), (some 164), none, [5], none⟩,
  ⟨.mov (.tmp 0), (some 165), none, [], none⟩,
  ⟨.mov (.tmp 23), (some 166), none, [], none⟩,
  ⟨.idxAddr 5 (.tmp 165) (.tmp 166), (some 167), none, [7, 8], none⟩,
  ⟨.load 5 true (.tmp 167), (some 168), none, [9], none⟩,
  ⟨.callv (.tmp 158) [(.tmp 164), (.tmp 168)], (some 169), none, [0, 6, 10], none⟩,
  ⟨.bin .lss (.tmp 169) (.con (.v (.int .i64 0))), (some 170), none, [11], none⟩,
  ⟨.un .not (.tmp 170), (some 171), none, [12], none⟩]
def d50r36 : List RO := [
  ⟨.mov (.tmp 23), (some 172), none, [], none⟩,
  ⟨.bin .add (.tmp 172) (.con (.v (.int .i64 1))), (some 173), none, [0], none⟩,
  ⟨.mov (.tmp 173), (some 20), none, [1, 0, 1], none⟩]
def d50r37 : List RO := [
  ⟨.mov (.tmp 23), (some 174), none, [], none⟩,
  ⟨.mov (.tmp 174), (some 21), none, [0, 0], none⟩]
def d50r38 : List RO := [
  ⟨.mov (.tmp 19), (some 175), none, [], none⟩,
  ⟨.mov (.tmp 20), (some 176), none, [], none⟩,
  ⟨.bin .sub (.tmp 175) (.tmp 176), (some 177), none, [0, 1], none⟩,
  ⟨.mov (.tmp 177), (some 24), none, [2, 0, 1, 2], none⟩]
def d50r39 : List RO := [
  ⟨.mov (.tmp 20), (some 178), none, [], none⟩,
  ⟨.mov (.tmp 2), (some 179), none, [], none⟩,
  ⟨.bin .lss (.tmp 178) (.tmp 179), (some 180), none, [0, 1], none⟩,
  ⟨.mov (.tmp 180), (some 181), none, [2], none⟩,
  ⟨.mov (.tmp 2), (some 182), (some (181, true)), [3], none⟩,
  ⟨.mov (.tmp 24), (some 183), (some (181, true)), [3], none⟩,
  ⟨.bin .lss (.tmp 182) (.tmp 183), (some 184), (some (181, true)), [4, 5, 3], none⟩,
  ⟨.pick (.tmp 181) (.tmp 184) (.con (.v (.bool false))), (some 185), none, [3, 6], none⟩]
def d50r40 : List RO := [
  ⟨.mov (.tmp 0), (some 186), none, [], none⟩,
  ⟨.mov (.tmp 20), (some 187), none, [], none⟩,
  ⟨.mov (.tmp 2), (some 188), none, [], none⟩,
  ⟨.mov (.tmp 24), (some 189), none, [], none⟩,
  ⟨.mov (.tmp 4), (some 190), none, [], none⟩,
  ⟨.call 51 [(.tmp 186), (.tmp 187), (.tmp 188), (.tmp 189), (.tmp 190)], (some 191), none, [0, 1, 2, 3, 4], none⟩]
def d50r40S : List RO := [
  ⟨.mov (.tmp 0), (some 186), none, [], none⟩,
  ⟨.mov (.tmp 20), (some 187), none, [], none⟩,
  ⟨.mov (.tmp 2), (some 188), none, [], none⟩,
  ⟨.mov (.tmp 24), (some 189), none, [], none⟩,
  ⟨.mov (.tmp 4), (some 190), none, [], none⟩,
  ⟨.callS 51 [(.tmp 186), (.tmp 187), (.tmp 188), (.tmp 189), (.tmp 190)], (some 191), none, [0, 1, 2, 3, 4], none⟩]
def d50r41 : List RO := [
  ⟨.mov (.tmp 1), (some 192), none, [], none⟩,
  ⟨.mov (.tmp 20), (some 193), none, [], none⟩,
  ⟨.bin .lss (.tmp 192) (.tmp 193), (some 194), none, [0, 1], none⟩,
  ⟨.mov (.tmp 194), (some 195), none, [2], none⟩,
  ⟨.mov (.tmp 20), (some 196), (some (195, true)), [3], none⟩,
  ⟨.mov (.tmp 18), (some 197), (some (195, true)), [3], none⟩,
  ⟨.bin .lss (.tmp 196) (.tmp 197), (some 198), (some (195, true)), [4, 5, 3], none⟩,
  ⟨.pick (.tmp 195) (.tmp 198) (.con (.v (.bool false))), (some 199), none, [3, 6], none⟩]
def d50r42 : List RO := [
  ⟨.mov (.tmp 0), (some 200), none, [], none⟩,
  ⟨.mov (.tmp 1), (some 201), none, [], none⟩,
  ⟨.mov (.tmp 20), (some 202), none, [], none⟩,
  ⟨.mov (.tmp 18), (some 203), none, [], none⟩,
  ⟨.mov (.tmp 4), (some 204), none, [], none⟩,
  ⟨.call 50 [(.tmp 200), (.tmp 201), (.tmp 202), (.tmp 203), (.tmp 204)], (some 205), none, [0, 1, 2, 3, 4], none⟩]
def d50r42S : List RO := [
  ⟨.mov (.tmp 0), (some 200), none, [], none⟩,
  ⟨.mov (.tmp 1), (some 201), none, [], none⟩,
  ⟨.mov (.tmp 20), (some 202), none, [], none⟩,
  ⟨.mov (.tmp 18), (some 203), none, [], none⟩,
  ⟨.mov (.tmp 4), (some 204), none, [], none⟩,
  ⟨.callS 50 [(.tmp 200), (.tmp 201), (.tmp 202), (.tmp 203), (.tmp 204)], (some 205), none, [0, 1, 2, 3, 4], none⟩]
def d50r43 : List RO := [
  ⟨.mov (.tmp 18), (some 206), none, [], none⟩,
  ⟨.mov (.tmp 24), (some 207), none, [], none⟩,
  ⟨.bin .lss (.tmp 206) (.tmp 207), (some 208), none, [0, 1], none⟩,
  ⟨.mov (.tmp 208), (some 209), none, [2], none⟩,
  ⟨.mov (.tmp 24), (some 210), (some (209, true)), [3], none⟩,
  ⟨.mov (.tmp 3), (some 211), (some (209, true)), [3], none⟩,
  ⟨.bin .lss (.tmp 210) (.tmp 211), (some 212), (some (209, true)), [4, 5, 3], none⟩,
  ⟨.pick (.tmp 209) (.tmp 212) (.con (.v (.bool false))), (some 213), none, [3, 6], none⟩]
def d50r44 : List RO := [
  ⟨.mov (.tmp 0), (some 214), none, [], none⟩,
  ⟨.mov (.tmp 18), (some 215), none, [], none⟩,
  ⟨.mov (.tmp 24), (some 216), none, [], none⟩,
  ⟨.mov (.tmp 3), (some 217), none, [], none⟩,
  ⟨.mov (.tmp 4), (some 218), none, [], none⟩,
  ⟨.call 50 [(.tmp 214), (.tmp 215), (.tmp 216), (.tmp 217), (.tmp 218)], (some 219), none, [0, 1, 2, 3, 4], none⟩]
def d50r44S : List RO := [
  ⟨.mov (.tmp 0), (some 214), none, [], none⟩,
  ⟨.mov (.tmp 18), (some 215), none, [], none⟩,
  ⟨.mov (.tmp 24), (some 216), none, [], none⟩,
  ⟨.mov (.tmp 3), (some 217), none, [], none⟩,
  ⟨.mov (.tmp 4), (some 218), none, [], none⟩,
  ⟨.callS 50 [(.tmp 214), (.tmp 215), (.tmp 216), (.tmp 217), (.tmp 218)], (some 219), none, [0, 1, 2, 3, 4], none⟩]
def d50 : DC := (.seq (.seq (.region false d50r0)
  (.cond (.tmp 28) (.seq (.region false d50r1)
  (.seq (.region false d50r2)
  (.seq (.block 0 (.loop (.seq (.seq (.region false d50r3)
  (.cond (.tmp 33) .skip
  (.exit 0)))
  (.block 1 (.seq (.region false d50r4)
  (.seq (.region true d50r5)
  (.cond (.tmp 50) (.region false d50r6)
  (.region false d50r7))))))))
  (.seq (.seq (.region false d50r8)
  (.block 2 (.loop (.seq (.seq (.region false d50r9)
  (.cond (.tmp 58) .skip
  (.exit 2)))
  (.seq (.block 3 (.region true d50r10))
  (.region false d50r11))))))
  .ret))))
  .skip))
  (.seq (.seq (.region false d50r12)
  (.cond (.tmp 80) (.seq (.region false d50r13)
  (.seq (.region false d50r14)
  (.seq (.block 4 (.loop (.seq (.seq (.region false d50r15)
  (.cond (.tmp 85) .skip
  (.exit 4)))
  (.block 5 (.seq (.region false d50r16)
  (.seq (.region true d50r17)
  (.cond (.tmp 103) (.region false d50r18)
  (.region false d50r19))))))))
  (.seq (.seq (.region false d50r20)
  (.block 6 (.loop (.seq (.seq (.region false d50r21)
  (.cond (.tmp 110) .skip
  (.exit 6)))
  (.seq (.block 7 (.region true d50r22))
  (.region false d50r23))))))
  .ret))))
  .skip))
  (.seq (.region false d50r24)
  (.seq (.region false d50r25)
  (.seq (.region false d50r26)
  (.seq (.seq (.region false d50r27)
  (.cond (.tmp 140) (.seq (.region false d50r28)
  (.region false d50r29))
  (.seq (.region false d50r30)
  (.region false d50r31))))
  (.seq (.region false d50r32)
  (.seq (.block 8 (.loop (.seq (.seq (.region false d50r33)
  (.cond (.tmp 151) .skip
  (.exit 8)))
  (.block 9 (.seq (.region false d50r34)
  (.seq (.region true d50r35)
  (.cond (.tmp 171) (.region false d50r36)
  (.region false d50r37))))))))
  (.seq (.region false d50r38)
  (.seq (.seq (.region false d50r39)
  (.cond (.tmp 185) (.region false d50r40)
  .skip))
  (.seq (.seq (.region false d50r41)
  (.cond (.tmp 199) (.region false d50r42)
  .skip))
  (.seq (.region false d50r43)
  (.cond (.tmp 213) (.region false d50r44)
  .skip)))))))))))))
def d50res : List DRes := []
theorem c50 [Laid] : CodeOf Try.prog 50 220 d50 d50res := ⟨Try.f50, by kernel_rfl, by kernel_rfl, by kernel_rfl, by kernel_rfl, by kernel_rfl⟩
-- slices.rotateCmpFunc[emendate/api.Hyperedge]
def d51r0 : List RO := [
  ⟨.mov (.tmp 2), (some 12), none, [], none⟩,
  ⟨.mov (.tmp 1), (some 13), none, [], none⟩,
  ⟨.bin .sub (.tmp 12) (.tmp 13), (some 14), none, [0, 1], none⟩,
  ⟨.mov (.tmp 14), (some 10), none, [2, 0, 1, 2], none⟩]
def d51r1 : List RO := [
  ⟨.mov (.tmp 3), (some 15), none, [], none⟩,
  ⟨.mov (.tmp 2), (some 16), none, [], none⟩,
  ⟨.bin .sub (.tmp 15) (.tmp 16), (some 17), none, [0, 1], none⟩,
  ⟨.mov (.tmp 17), (some 11), none, [2, 0, 1, 2], none⟩]
def d51r2 : List RO := [
  ⟨.mov (.tmp 10), (some 18), none, [], none⟩,
  ⟨.mov (.tmp 11), (some 19), none, [], none⟩,
  ⟨.bin .neq (.tmp 18) (.tmp 19), (some 20), none, [0, 1], none⟩]
def d51r3 : List RO := [
  ⟨.mov (.tmp 10), (some 21), none, [], none⟩,
  ⟨.mov (.tmp 11), (some 22), none, [], none⟩,
  ⟨.bin .gtr (.tmp 21) (.tmp 22), (some 23), none, [0, 1], none⟩]
def d51r4 : List RO := [
  ⟨.mov (.tmp 0), (some 24), none, [], none⟩,
  ⟨.mov (.tmp 2), (some 25), none, [], none⟩,
  ⟨.mov (.tmp 10), (some 26), none, [], none⟩,
  ⟨.bin .sub (.tmp 25) (.tmp 26), (some 27), none, [1, 2], none⟩,
  ⟨.mov (.tmp 2), (some 28), none, [], none⟩,
  ⟨.mov (.tmp 11), (some 29), none, [], none⟩,
  ⟨.mov (.tmp 4), (some 30), none, [], none⟩,
  ⟨.call 52 [(.tmp 24), (.tmp 27), (.tmp 28), (.tmp 29), (.tmp 30)], (some 31), none, [0, 3, 4, 5, 6], none⟩]
def d51r4S : List RO := [
  ⟨.mov (.tmp 0), (some 24), none, [], none⟩,
  ⟨.mov (.tmp 2), (some 25), none, [], none⟩,
  ⟨.mov (.tmp 10), (some 26), none, [], none⟩,
  ⟨.bin .sub (.tmp 25) (.tmp 26), (some 27), none, [1, 2], none⟩,
  ⟨.mov (.tmp 2), (some 28), none, [], none⟩,
  ⟨.mov (.tmp 11), (some 29), none, [], none⟩,
  ⟨.mov (.tmp 4), (some 30), none, [], none⟩,
  ⟨.callS 52 [(.tmp 24), (.tmp 27), (.tmp 28), (.tmp 29), (.tmp 30)], (some 31), none, [0, 3, 4, 5, 6], none⟩]
def d51r5 : List RO := [
  ⟨.mov (.tmp 10), (some 32), none, [], none⟩,
  ⟨.mov (.tmp 11), (some 33), none, [], none⟩,
  ⟨.bin .sub (.tmp 32) (.tmp 33), (some 34), none, [0, 1], none⟩,
  ⟨.mov (.tmp 34), (some 10), none, [2, 0, 1, 2], none⟩]
def d51r6 : List RO := [
  ⟨.mov (.tmp 0), (some 35), none, [], none⟩,
  ⟨.mov (.tmp 2), (some 36), none, [], none⟩,
  ⟨.mov (.tmp 10), (some 37), none, [], none⟩,
  ⟨.bin .sub (.tmp 36) (.tmp 37), (some 38), none, [1, 2], none⟩,
  ⟨.mov (.tmp 2), (some 39), none, [], none⟩,
  ⟨.mov (.tmp 11), (some 40), none, [], none⟩,
  ⟨.bin .add (.tmp 39) (.tmp 40), (some 41), none, [4, 5], none⟩,
  ⟨.mov (.tmp 10), (some 42), none, [], none⟩,
  ⟨.bin .sub (.tmp 41) (.tmp 42), (some 43), none, [6, 7], none⟩,
  ⟨.mov (.tmp 10), (some 44), none, [], none⟩,
  ⟨.mov (.tmp 4), (some 45), none, [], none⟩,
  ⟨.call 52 [(.tmp 35), (.tmp 38), (.tmp 43), (.tmp 44), (.tmp 45)], (some 46), none, [0, 3, 8, 9, 10], none⟩]
def d51r6S : List RO := [
  ⟨.mov (.tmp 0), (some 35), none, [], none⟩,
  ⟨.mov (.tmp 2), (some 36), none, [], none⟩,
  ⟨.mov (.tmp 10), (some 37), none, [], none⟩,
  ⟨.bin .sub (.tmp 36) (.tmp 37), (some 38), none, [1, 2], none⟩,
  ⟨.mov (.tmp 2), (some 39), none, [], none⟩,
  ⟨.mov (.tmp 11), (some 40), none, [], none⟩,
  ⟨.bin .add (.tmp 39) (.tmp 40), (some 41), none, [4, 5], none⟩,
  ⟨.mov (.tmp 10), (some 42), none, [], none⟩,
  ⟨.bin .sub (.tmp 41) (.tmp 42), (some 43), none, [6, 7], none⟩,
  ⟨.mov (.tmp 10), (some 44), none, [], none⟩,
  ⟨.mov (.tmp 4), (some 45), none, [], none⟩,
  ⟨.callS 52 [(.tmp 35), (.tmp 38), (.tmp 43), (.tmp 44), (.tmp 45)], (some 46), none, [0, 3, 8, 9, 10], none⟩]
def d51r7 : List RO := [
  ⟨.mov (.tmp 11), (some 47), none, [], none⟩,
  ⟨.mov (.tmp 10), (some 48), none, [], none⟩,
  ⟨.bin .sub (.tmp 47) (.tmp 48), (some 49), none, [0, 1], none⟩,
  ⟨.mov (.tmp 49), (some 11), none, [2, 0, 1, 2], none⟩]
def d51r8 : List RO := [
  ⟨.mov (.tmp 0), (some 50), none, [], none⟩,
  ⟨.mov (.tmp 2), (some 51), none, [], none⟩,
  ⟨.mov (.tmp 10), (some 52), none, [], none⟩,
  ⟨.bin .sub (.tmp 51) (.tmp 52), (some 53), none, [1, 2], none⟩,
  ⟨.mov (.tmp 2), (some 54), none, [], none⟩,
  ⟨.mov (.tmp 10), (some 55), none, [], none⟩,
  ⟨.mov (.tmp 4), (some 56), none, [], none⟩,
  ⟨.call 52 [(.tmp 50), (.tmp 53), (.tmp 54), (.tmp 55), (.tmp 56)], (some 57), none, [0, 3, 4, 5, 6], none⟩]
def d51r8S : List RO := [
  ⟨.mov (.tmp 0), (some 50), none, [], none⟩,
  ⟨.mov (.tmp 2), (some 51), none, [], none⟩,
  ⟨.mov (.tmp 10), (some 52), none, [], none⟩,
  ⟨.bin .sub (.tmp 51) (.tmp 52), (some 53), none, [1, 2], none⟩,
  ⟨.mov (.tmp 2), (some 54), none, [], none⟩,
  ⟨.mov (.tmp 10), (some 55), none, [], none⟩,
  ⟨.mov (.tmp 4), (some 56), none, [], none⟩,
  ⟨.callS 52 [(.tmp 50), (.tmp 53), (.tmp 54), (.tmp 55), (.tmp 56)], (some 57), none, [0, 3, 4, 5, 6], none⟩]
def d51 : DC := (.seq (.region false d51r0)
  (.seq (.region false d51r1)
  (.seq (.block 0 (.loop (.seq (.seq (.region false d51r2)
  (.cond (.tmp 20) .skip
  (.exit 0)))
  (.block 1 (.seq (.region false d51r3)
  (.cond (.tmp 23) (.seq (.region false d51r4)
  (.region false d51r5))
  (.seq (.region false d51r6)
  (.region false d51r7))))))))
  (.region false d51r8))))
def d51res : List DRes := []
theorem c51 [Laid] : CodeOf Try.prog 51 58 d51 d51res := ⟨Try.f51, by kernel_rfl, by kernel_rfl, by kernel_rfl, by kernel_rfl, by kernel_rfl⟩
-- slices.swapRangeCmpFunc[emendate/api.Hyperedge]
def d52r0 : List RO := [
  ⟨.mov (.con (.v (.int .i64 0))), (some 10), none, [], none⟩]
def d52r1 : List RO := [
  ⟨.mov (.tmp 10), (some 11), none, [], none⟩,
  ⟨.mov (.tmp 3), (some 12), none, [], none⟩,
  ⟨.bin .lss (.tmp 11) (.tmp 12), (some 13), none, [0, 1], none⟩]
def d52r2 : List RO := [
  ⟨.mov (.tmp 0), (some 16), none, [], none⟩,
  ⟨.mov (.tmp 1), (some 17), none, [], none⟩,
  ⟨.mov (.tmp 10), (some 18), none, [], none⟩,
  ⟨.bin .add (.tmp 17) (.tmp 18), (some 19), none, [1, 2], none⟩,
  ⟨.mov (.tmp 0), (some 20), none, [], none⟩,
  ⟨.mov (.tmp 2), (some 21), none, [], none⟩,
  ⟨.mov (.tmp 10), (some 22), none, [], none⟩,
  ⟨.bin .add (.tmp 21) (.tmp 22), (some 23), none, [5, 6], none⟩,
  ⟨.mov (.tmp 0), (some 24), none, [], none⟩,
  ⟨.mov (.tmp 2), (some 25), none, [], none⟩,
  ⟨.mov (.tmp 10), (some 26), none, [], none⟩,
  ⟨.bin .add (.tmp 25) (.tmp 26), (some 27), none, [9, 10], none⟩,
  ⟨.idxAddr 5 (.tmp 24) (.tmp 27), (some 28), none, [8, 11], none⟩,
  ⟨.load 5 true (.tmp 28), (some 29), none, [12], none⟩,
  ⟨.mov (.tmp 0), (some 30), none, [], none⟩,
  ⟨.mov (.tmp 1), (some 31), none, [], none⟩,
  ⟨.mov (.tmp 10), (some 32), none, [], none⟩,
  ⟨.bin .add (.tmp 31) (.tmp 32), (some 33), none, [15, 16], none⟩,
  ⟨.idxAddr 5 (.tmp 30) (.tmp 33), (some 34), none, [14, 17], none⟩,
  ⟨.load 5 true (.tmp 34), (some 35), none, [18], none⟩,
  ⟨.idxAddr 5 (.tmp 16) (.tmp 19), (some 36), none, [0, 3, 0, 1, 2, 3, 8, 9, 10, 11, 12, 13, 19], none⟩,
  ⟨.store 5 (.tmp 36) (.tmp 29), none, none, [20, 13, 0, 1, 2, 3, 8, 9, 10, 11, 12, 13, 19], none⟩,
  ⟨.idxAddr 5 (.tmp 20) (.tmp 23), (some 37), none, [4, 7, 0, 1, 2, 3, 4, 5, 6, 7, 8, 9, 10, 11, 12, 13, 14, 15, 16, 17, 18, 19, 20, 21], none⟩,
  ⟨.store 5 (.tmp 37) (.tmp 35), none, none, [22, 19, 21, 0, 1, 2, 3, 4, 5, 6, 7, 8, 9, 10, 11, 12, 13, 14, 15, 16, 17, 18, 19, 20, 21], none⟩]
def d52r3 : List RO := [
  ⟨.mov (.tmp 10), (some 14), none, [], none⟩,
  ⟨.bin .add (.tmp 14) (.con (.v (.int .i64 1))), (some 15), none, [0], none⟩,
  ⟨.mov (.tmp 15), (some 10), none, [1, 0, 1], none⟩]
def d52 : DC := (.seq (.region false d52r0)
  (.block 0 (.loop (.seq (.seq (.region false d52r1)
  (.cond (.tmp 13) .skip
  (.exit 0)))
  (.seq (.block 1 (.region true d52r2))
  (.region false d52r3))))))
def d52res : List DRes := []
theorem c52 [Laid] : CodeOf Try.prog 52 38 d52 d52res := ⟨Try.f52, by kernel_rfl, by kernel_rfl, by kernel_rfl, by kernel_rfl, by kernel_rfl⟩
-- emendate/items.instances
def d34r0 : List RO := [
  ⟨.box (.tmp 0), (some 5), none, [], none⟩,
  ⟨.box (.tmp 1), (some 6), none, [], none⟩,
  ⟨.box (.tmp 2), (some 7), none, [], none⟩,
  ⟨.box (.tmp 3), (some 8), none, [], none⟩,
  ⟨.box (.tmp 4), (some 9), none, [], none⟩,
  ⟨.mov (.con (.v (.raw (Go.Value.nilFunc)))), (some 10), none, [], none⟩]
def d34r1 : List RO := [
  ⟨.load 4 true (.tmp 5), (some 14), none, [], none⟩,
  ⟨.load 3 true (.tmp 6), (some 15), none, [], none⟩,
  ⟨.call 32 [(.tmp 14), (.tmp 15)], (some 16), none, [0, 1], none⟩,
  ⟨.alloc [(.v (.int .i64 0)), (.v (.int .i64 0))], (some 11), none, [], none⟩,
  ⟨.store 2 (.tmp 11) (.tmp 16), none, none, [3, 2, 2, 0, 1, 2, 3], none⟩]
def d34r2 : List RO := [
  ⟨.addOff 3 (.tmp 5), (some 17), none, [], none⟩,
  ⟨.load 1 false (.tmp 17), (some 18), none, [0], none⟩,
  ⟨.load 1 false (.tmp 7), (some 19), none, [], none⟩,
  ⟨.idxAddr 6 (.tmp 18) (.tmp 19), (some 20), none, [1, 2], none⟩,
  ⟨.load 6 true (.tmp 20), (some 21), none, [3], none⟩,
  ⟨.alloc [(.v (.int .i64 0)), (.v (.int .i64 0)), (.v (.int .i64 0)), (.v (.int .i64 0)), (.v (.int .i64 0)), (.v (.int .i64 0))], (some 12), none, [], none⟩,
  ⟨.store 6 (.tmp 12) (.tmp 21), none, none, [5, 4, 0, 1, 2, 3, 4, 5], none⟩]
def d34r3 : List RO := [
  ⟨.mkFn (.func 46) [(.tmp 11), (.tmp 12), (.tmp 8), (.tmp 9), (.tmp 7)], (some 22), none, [], none⟩,
  ⟨.alloc [(.v (.raw (Go.Value.nilFunc)))], (some 13), none, [], none⟩,
  ⟨.store 1 (.tmp 13) (.tmp 22), none, none, [1, 0, 0, 1], none⟩]
def d34r4 : List RO := [
  ⟨.mkFn (.func 47) [(.tmp 12), (.tmp 8), (.tmp 9), (.tmp 13), (.tmp 6), (.tmp 11)], (some 23), none, [], none⟩,
  ⟨.mov (.tmp 23), (some 10), none, [0, 0], none⟩]
def d34 : DC := (.seq (.region false d34r0)
  (.seq (.region false d34r1)
  (.seq (.region false d34r2)
  (.seq (.region false d34r3)
  (.seq (.region false d34r4)
  .ret)))))
def d34res : List DRes := [.slot 10]
theorem c34 [Laid] : CodeOf Try.prog 34 24 d34 d34res := ⟨Try.f34, by kernel_rfl, by kernel_rfl, by kernel_rfl, by kernel_rfl, by kernel_rfl⟩
-- emendate/emendateref39.edges
def d38r0 : List RO := [
  ⟨.box (.tmp 0), (some 3), none, [], none⟩,
  ⟨.box (.tmp 1), (some 4), none, [], none⟩,
  ⟨.box (.tmp 2), (some 5), none, [], none⟩,
  ⟨.mov (.con .nil0), (some 6), none, [], none⟩]
def d38r1 : List RO := [
  ⟨.mov (.con .nil0), (some 7), none, [], none⟩]
def d38r2 : List RO := [
  ⟨.load 4 true (.tmp 3), (some 23), none, [], none⟩,
  ⟨.load 3 true (.tmp 4), (some 24), none, [], none⟩,
  ⟨.load 3 true (.tmp 5), (some 25), none, [], none⟩,
  ⟨.call 18 [(.tmp 23), (.tmp 24), (.tmp 25)], (some 26), none, [0, 1, 2], none⟩,
  ⟨.mov (.tmp 26), (some 22), none, [3], none⟩,
  ⟨.extract 0 (.tmp 22), (some 27), none, [4], none⟩,
  ⟨.extract 1 (.tmp 22), (some 28), none, [4], none⟩,
  ⟨.mov (.tmp 27), (some 8), none, [5, 3, 0, 1, 2, 3, 4, 5], none⟩,
  ⟨.mov (.tmp 28), (some 9), none, [6, 7, 0, 1, 2, 3, 4, 5, 6, 7], none⟩]
def d38r3 : List RO := [
  ⟨.mov (.con (.v (.int .i64 0))), (some 10), none, [], none⟩]
def d38r4 : List RO := [
  ⟨.mov (.tmp 10), (some 29), none, [], none⟩,
  ⟨.addOff 3 (.tmp 3), (some 30), none, [], none⟩,
  ⟨.load 1 false (.tmp 30), (some 31), none, [1], none⟩,
  ⟨.len (.tmp 31), (some 32), none, [2], none⟩,
  ⟨.bin .lss (.tmp 29) (.tmp 32), (some 33), none, [0, 3], none⟩]
def d38r5 : List RO := [
  ⟨.addOff 3 (.tmp 3), (some 36), none, [], none⟩,
  ⟨.load 1 false (.tmp 36), (some 37), none, [0], none⟩,
  ⟨.mov (.tmp 10), (some 38), none, [], none⟩,
  ⟨.idxAddr 6 (.tmp 37) (.tmp 38), (some 39), none, [1, 2], none⟩,
  ⟨.load 6 true (.tmp 39), (some 40), none, [3], none⟩,
  ⟨.alloc [(.v (.int .i64 0)), (.v (.int .i64 0)), (.v (.int .i64 0)), (.v (.int .i64 0)), (.v (.int .i64 0)), (.v (.int .i64 0))], (some 11), none, [], none⟩,
  ⟨.store 6 (.tmp 11) (.tmp 40), none, none, [5, 4, 0, 1, 2, 3, 4, 5], none⟩]
def d38r6 : List RO := [
  ⟨.addOff 1 (.tmp 11), (some 41), none, [], none⟩,
  ⟨.load 1 false (.tmp 41), (some 42), none, [0], none⟩,
  ⟨.addOff 0 (.tmp 5), (some 43), none, [], none⟩,
  ⟨.load 1 false (.tmp 43), (some 44), none, [2], none⟩,
  ⟨.bin .neq (.tmp 42) (.tmp 44), (some 45), none, [1, 3], none⟩]
def d38r7 : List RO := [
  ⟨.mov (.tmp 8), (some 46), none, [], none⟩,
  ⟨.addOff 4 (.tmp 11), (some 47), none, [], none⟩,
  ⟨.load 1 false (.tmp 47), (some 48), none, [1], none⟩,
  ⟨.build [(.v (.int .i64 0)), .nil0, (.v (.int .i64 0)), (.v (.int .i64 0)), (.v (.int .i64 0))] [(0, 1, (.tmp 46)), (2, 1, (.tmp 48))], (some 49), none, [0, 2], none⟩,
  ⟨.alloc [(.v (.int .i64 0)), .nil0, (.v (.int .i64 0)), (.v (.int .i64 0)), (.v (.int .i64 0))], (some 12), none, [], none⟩,
  ⟨.store 5 (.tmp 12) (.tmp 49), none, none, [4, 3, 0, 1, 2, 3, 4], none⟩]
def d38r8 : List RO := [
  ⟨.addOff 0 (.tmp 11), (some 50), none, [], none⟩,
  ⟨.load 1 false (.tmp 50), (some 51), none, [0], none⟩]
def d38r9 : List RO := [
  ⟨.bin .eql (.tmp 51) (.con (.v (.int .i64 1))), (some 53), none, [], none⟩,
  ⟨.mov (.tmp 53), (some 52), none, [0], none⟩]
def d38r10 : List RO := [
  ⟨.addOff 1 (.tmp 5), (some 54), none, [], none⟩,
  ⟨.load 1 false (.tmp 54), (some 55), none, [0], none⟩,
  ⟨.addOff 2 (.tmp 5), (some 56), none, [], none⟩,
  ⟨.load 1 false (.tmp 56), (some 57), none, [2], none⟩,
  ⟨.bin .eql (.tmp 55) (.tmp 57), (some 58), none, [1, 3], none⟩]
def d38r11 : List RO := [
  ⟨.mov (.tmp 10), (some 59), none, [], none⟩,
  ⟨.addOff 1 (.tmp 5), (some 60), none, [], none⟩,
  ⟨.load 1 false (.tmp 60), (some 61), none, [1], none⟩,
  ⟨.build [(.v (.int .i64 0)), (.v (.int .i64 0))] [(0, 1, (.tmp 59)), (1, 1, (.tmp 61))], (some 62), none, [0, 2], none⟩,
  ⟨.addOff 3 (.tmp 12), (some 63), none, [0, 1, 2, 3], none⟩,
  ⟨.store 2 (.tmp 63) (.tmp 62), none, none, [4, 3, 0, 1, 2, 3], none⟩]
def d38r12 : List RO := [
  ⟨.mov (.tmp 7), (some 64), none, [], none⟩,
  ⟨.load 5 true (.tmp 12), (some 65), none, [], none⟩,
  ⟨.bslice 1 5 [(.v (.int .i64 0)), .nil0, (.v (.int .i64 0)), (.v (.int .i64 0)), (.v (.int .i64 0))] [(0, 5, (.tmp 65))], (some 66), none, [1], none⟩,
  ⟨.append 47 5 56 (.tmp 64) (.tmp 66), (some 67), none, [0, 2], none⟩,
  ⟨.mov (.tmp 67), (some 7), none, [3, 3, 0, 1, 2, 3], none⟩]
def d38r13 : List RO := [
  ⟨.bin .eql (.tmp 51) (.con (.v (.int .i64 2))), (some 69), none, [], none⟩,
  ⟨.mov (.tmp 69), (some 68), none, [0], none⟩]
def d38r14 : List RO := [
  ⟨.mov (.con (.v (.int .i64 0))), (some 13), none, [], none⟩]
def d38r15 : List RO := [
  ⟨.mov (.tmp 13), (some 70), none, [], none⟩,
  ⟨.addOff 1 (.tmp 4), (some 71), none, [], none⟩,
  ⟨.load 1 false (.tmp 71), (some 72), none, [1], none⟩,
  ⟨.len (.tmp 72), (some 73), none, [2], none⟩,
  ⟨.bin .lss (.tmp 70) (.tmp 73), (some 74), none, [0, 3], none⟩]
def d38r16 : List RO := [
  ⟨.addOff 1 (.tmp 4), (some 77), none, [], none⟩,
  ⟨.load 1 false (.tmp 77), (some 78), none, [0], none⟩,
  ⟨.mov (.tmp 13), (some 79), none, [], none⟩,
  ⟨.idxAddr 5 (.tmp 78) (.tmp 79), (some 80), none, [1, 2], none⟩,
  ⟨.load 5 true (.tmp 80), (some 81), none, [3], none⟩,
  ⟨.alloc [(.v (.int .i64 0)), (.v (.int .i64 0)), (.v (.int .i64 0)), (.v (.int .i64 0)), .nil0], (some 14), none, [], none⟩,
  ⟨.store 5 (.tmp 14) (.tmp 81), none, none, [5, 4, 0, 1, 2, 3, 4, 5], none⟩]
def d38r17 : List RO := [
  ⟨.addOff 0 (.tmp 14), (some 82), none, [], none⟩,
  ⟨.load 1 false (.tmp 82), (some 83), none, [0], none⟩,
  ⟨.addOff 1 (.tmp 5), (some 84), none, [], none⟩,
  ⟨.load 1 false (.tmp 84), (some 85), none, [2], none⟩,
  ⟨.bin .eql (.tmp 83) (.tmp 85), (some 86), none, [1, 3], none⟩,
  ⟨.mov (.tmp 86), (some 87), none, [4], none⟩,
  ⟨.addOff 1 (.tmp 14), (some 88), (some (87, true)), [5], none⟩,
  ⟨.load 1 false (.tmp 88), (some 89), (some (87, true)), [6, 5], none⟩,
  ⟨.addOff 2 (.tmp 5), (some 90), (some (87, true)), [5], none⟩,
  ⟨.load 1 false (.tmp 90), (some 91), (some (87, true)), [8, 5], none⟩,
  ⟨.bin .eql (.tmp 89) (.tmp 91), (some 92), (some (87, true)), [7, 9, 5], none⟩,
  ⟨.pick (.tmp 87) (.tmp 92) (.con (.v (.bool false))), (some 93), none, [5, 10], none⟩,
  ⟨.mov (.tmp 93), (some 94), none, [11, 5], none⟩,
  ⟨.addOff 2 (.tmp 14), (some 95), (some (94, true)), [12], none⟩,
  ⟨.load 1 false (.tmp 95), (some 96), (some (94, true)), [13, 12], none⟩,
  ⟨.addOff 2 (.tmp 11), (some 97), (some (94, true)), [12], none⟩,
  ⟨.load 1 false (.tmp 97), (some 98), (some (94, true)), [15, 12], none⟩,
  ⟨.bin .eql (.tmp 96) (.tmp 98), (some 99), (some (94, true)), [14, 16, 12], none⟩,
  ⟨.pick (.tmp 94) (.tmp 99) (.con (.v (.bool false))), (some 100), none, [12, 17], none⟩]
def d38r18 : List RO := [
  ⟨.mov (.tmp 10), (some 101), none, [], none⟩,
  ⟨.mov (.tmp 13), (some 102), none, [], none⟩,
  ⟨.build [(.v (.int .i64 0)), (.v (.int .i64 0))] [(0, 1, (.tmp 101)), (1, 1, (.tmp 102))], (some 103), none, [0, 1], none⟩,
  ⟨.addOff 3 (.tmp 12), (some 104), none, [0, 1, 2], none⟩,
  ⟨.store 2 (.tmp 104) (.tmp 103), none, none, [3, 2, 0, 1, 2], none⟩]
def d38r19 : List RO := [
  ⟨.addOff 4 (.tmp 11), (some 105), none, [], none⟩,
  ⟨.load 1 false (.tmp 105), (some 106), none, [0], none⟩,
  ⟨.addOff 3 (.tmp 14), (some 107), none, [], none⟩,
  ⟨.load 1 false (.tmp 107), (some 108), none, [2], none⟩,
  ⟨.bin .add (.tmp 106) (.tmp 108), (some 109), none, [1, 3], none⟩,
  ⟨.minmax false (.tmp 109) (.con (.v (.int .i64 1099511627776))), (some 110), none, [4], none⟩,
  ⟨.addOff 2 (.tmp 12), (some 111), none, [0, 1, 2, 3, 4, 5], none⟩,
  ⟨.store 1 (.tmp 111) (.tmp 110), none, none, [6, 5, 0, 1, 2, 3, 4, 5], none⟩]
def d38r20 : List RO := [
  ⟨.mov (.tmp 7), (some 112), none, [], none⟩,
  ⟨.load 5 true (.tmp 12), (some 113), none, [], none⟩,
  ⟨.bslice 1 5 [(.v (.int .i64 0)), .nil0, (.v (.int .i64 0)), (.v (.int .i64 0)), (.v (.int .i64 0))] [(0, 5, (.tmp 113))], (some 114), none, [1], none⟩,
  ⟨.append 47 5 56 (.tmp 112) (.tmp 114), (some 115), none, [0, 2], none⟩,
  ⟨.mov (.tmp 115), (some 7), none, [3, 3, 0, 1, 2, 3], none⟩]
def d38r21 : List RO := [
  ⟨.mov (.tmp 13), (some 75), none, [], none⟩,
  ⟨.bin .add (.tmp 75) (.con (.v (.int .i64 1))), (some 76), none, [0], none⟩,
  ⟨.mov (.tmp 76), (some 13), none, [1, 0, 1], none⟩]
def d38r22 : List RO := [
  ⟨.bin .eql (.tmp 51) (.con (.v (.int .i64 3))), (some 117), none, [], none⟩,
  ⟨.mov (.tmp 117), (some 116), none, [0], none⟩]
def d38r23 : List RO := [
  ⟨.load 4 true (.tmp 3), (some 119), none, [], none⟩,
  ⟨.load 3 true (.tmp 4), (some 120), none, [], none⟩,
  ⟨.addOff 2 (.tmp 11), (some 121), none, [], none⟩,
  ⟨.load 1 false (.tmp 121), (some 122), none, [2], none⟩,
  ⟨.addOff 1 (.tmp 5), (some 123), none, [], none⟩,
  ⟨.load 1 false (.tmp 123), (some 124), none, [4], none⟩,
  ⟨.addOff 2 (.tmp 5), (some 125), none, [], none⟩,
  ⟨.load 1 false (.tmp 125), (some 126), none, [6], none⟩,
  ⟨.build [(.v (.int .i64 0)), (.v (.int .i64 0)), (.v (.int .i64 0))] [(0, 1, (.tmp 122)), (1, 1, (.tmp 124)), (2, 1, (.tmp 126))], (some 127), none, [3, 5, 7], none⟩,
  ⟨.call 18 [(.tmp 119), (.tmp 120), (.tmp 127)], (some 128), none, [0, 1, 8], none⟩,
  ⟨.mov (.tmp 128), (some 118), none, [9], none⟩,
  ⟨.extract 0 (.tmp 118), (some 129), none, [10], none⟩,
  ⟨.extract 1 (.tmp 118), (some 130), none, [10], none⟩,
  ⟨.mov (.tmp 129), (some 15), none, [11, 9, 0, 1, 2, 3, 4, 5, 6, 7, 8, 9, 10, 11], none⟩,
  ⟨.mov (.tmp 130), (some 16), none, [12, 13, 0, 1, 2, 3, 4, 5, 6, 7, 8, 9, 10, 11, 12, 13], none⟩]
def d38r24 : List RO := [
  ⟨.mov (.tmp 10), (some 131), none, [], none⟩,
  ⟨.addOff 1 (.tmp 5), (some 132), none, [], none⟩,
  ⟨.load 1 false (.tmp 132), (some 133), none, [1], none⟩,
  ⟨.build [(.v (.int .i64 0)), (.v (.int .i64 0))] [(0, 1, (.tmp 131)), (1, 1, (.tmp 133))], (some 134), none, [0, 2], none⟩,
  ⟨.addOff 3 (.tmp 12), (some 135), none, [0, 1, 2, 3], none⟩,
  ⟨.store 2 (.tmp 135) (.tmp 134), none, none, [4, 3, 0, 1, 2, 3], none⟩]
def d38r25 : List RO := [
  ⟨.mov (.tmp 15), (some 136), none, [], none⟩,
  ⟨.bslice 1 1 [(.v (.int .i64 0))] [(0, 1, (.tmp 136))], (some 137), none, [0], none⟩,
  ⟨.addOff 1 (.tmp 12), (some 138), none, [0, 1], none⟩,
  ⟨.store 1 (.tmp 138) (.tmp 137), none, none, [2, 1, 0, 1], none⟩]
def d38r26 : List RO := [
  ⟨.mov (.tmp 7), (some 139), none, [], none⟩,
  ⟨.load 5 true (.tmp 12), (some 140), none, [], none⟩,
  ⟨.bslice 1 5 [(.v (.int .i64 0)), .nil0, (.v (.int .i64 0)), (.v (.int .i64 0)), (.v (.int .i64 0))] [(0, 5, (.tmp 140))], (some 141), none, [1], none⟩,
  ⟨.append 47 5 56 (.tmp 139) (.tmp 141), (some 142), none, [0, 2], none⟩,
  ⟨.mov (.tmp 142), (some 7), none, [3, 3, 0, 1, 2, 3], none⟩]
def d38r27 : List RO := [
  ⟨.bin .eql (.tmp 51) (.con (.v (.int .i64 4))), (some 144), none, [], none⟩,
  ⟨.mov (.tmp 144), (some 143), none, [0], none⟩]
def d38r28 : List RO := [
  ⟨.addOff 1 (.tmp 5), (some 145), none, [], none⟩,
  ⟨.load 1 false (.tmp 145), (some 146), none, [0], none⟩,
  ⟨.mov (.tmp 146), (some 17), none, [1, 0, 1], none⟩]
def d38r29 : List RO := [
  ⟨.mov (.tmp 17), (some 147), none, [], none⟩,
  ⟨.addOff 2 (.tmp 5), (some 148), none, [], none⟩,
  ⟨.load 1 false (.tmp 148), (some 149), none, [1], none⟩,
  ⟨.bin .leq (.tmp 147) (.tmp 149), (some 150), none, [0, 2], none⟩]
def d38r30 : List RO := [
  ⟨.load 4 true (.tmp 3), (some 154), none, [], none⟩,
  ⟨.load 3 true (.tmp 4), (some 155), none, [], none⟩,
  ⟨.addOff 2 (.tmp 11), (some 156), none, [], none⟩,
  ⟨.load 1 false (.tmp 156), (some 157), none, [2], none⟩,
  ⟨.addOff 1 (.tmp 5), (some 158), none, [], none⟩,
  ⟨.load 1 false (.tmp 158), (some 159), none, [4], none⟩,
  ⟨.mov (.tmp 17), (some 160), none, [], none⟩,
  ⟨.build [(.v (.int .i64 0)), (.v (.int .i64 0)), (.v (.int .i64 0))] [(0, 1, (.tmp 157)), (1, 1, (.tmp 159)), (2, 1, (.tmp 160))], (some 161), none, [3, 5, 6], none⟩,
  ⟨.call 18 [(.tmp 154), (.tmp 155), (.tmp 161)], (some 162), none, [0, 1, 7], none⟩,
  ⟨.mov (.tmp 162), (some 153), none, [8], none⟩,
  ⟨.extract 0 (.tmp 153), (some 163), none, [9], none⟩,
  ⟨.extract 1 (.tmp 153), (some 164), none, [9], none⟩,
  ⟨.mov (.tmp 163), (some 18), none, [10, 8, 0, 1, 2, 3, 4, 5, 6, 7, 8, 9, 10], none⟩,
  ⟨.mov (.tmp 164), (some 19), none, [11, 12, 0, 1, 2, 3, 4, 5, 6, 7, 8, 9, 10, 11, 12], none⟩]
def d38r31 : List RO := [
  ⟨.load 4 true (.tmp 3), (some 166), none, [], none⟩,
  ⟨.load 3 true (.tmp 4), (some 167), none, [], none⟩,
  ⟨.addOff 3 (.tmp 11), (some 168), none, [], none⟩,
  ⟨.load 1 false (.tmp 168), (some 169), none, [2], none⟩,
  ⟨.mov (.tmp 17), (some 170), none, [], none⟩,
  ⟨.addOff 2 (.tmp 5), (some 171), none, [], none⟩,
  ⟨.load 1 false (.tmp 171), (some 172), none, [5], none⟩,
  ⟨.build [(.v (.int .i64 0)), (.v (.int .i64 0)), (.v (.int .i64 0))] [(0, 1, (.tmp 169)), (1, 1, (.tmp 170)), (2, 1, (.tmp 172))], (some 173), none, [3, 4, 6], none⟩,
  ⟨.call 18 [(.tmp 166), (.tmp 167), (.tmp 173)], (some 174), none, [0, 1, 7], none⟩,
  ⟨.mov (.tmp 174), (some 165), none, [8], none⟩,
  ⟨.extract 0 (.tmp 165), (some 175), none, [9], none⟩,
  ⟨.extract 1 (.tmp 165), (some 176), none, [9], none⟩,
  ⟨.mov (.tmp 175), (some 20), none, [10, 8, 0, 1, 2, 3, 4, 5, 6, 7, 8, 9, 10], none⟩,
  ⟨.mov (.tmp 176), (some 21), none, [11, 12, 0, 1, 2, 3, 4, 5, 6, 7, 8, 9, 10, 11, 12], none⟩]
def d38r32 : List RO := [
  ⟨.mov (.tmp 10), (some 177), none, [], none⟩,
  ⟨.mov (.tmp 17), (some 178), none, [], none⟩,
  ⟨.build [(.v (.int .i64 0)), (.v (.int .i64 0))] [(0, 1, (.tmp 177)), (1, 1, (.tmp 178))], (some 179), none, [0, 1], none⟩,
  ⟨.addOff 3 (.tmp 12), (some 180), none, [0, 1, 2], none⟩,
  ⟨.store 2 (.tmp 180) (.tmp 179), none, none, [3, 2, 0, 1, 2], none⟩]
def d38r33 : List RO := [
  ⟨.mov (.tmp 18), (some 181), none, [], none⟩,
  ⟨.mov (.tmp 20), (some 182), none, [], none⟩,
  ⟨.bslice 2 1 [(.v (.int .i64 0)), (.v (.int .i64 0))] [(0, 1, (.tmp 181)), (1, 1, (.tmp 182))], (some 183), none, [0, 1], none⟩,
  ⟨.addOff 1 (.tmp 12), (some 184), none, [0, 1, 2], none⟩,
  ⟨.store 1 (.tmp 184) (.tmp 183), none, none, [3, 2, 0, 1, 2], none⟩]
def d38r34 : List RO := [
  ⟨.mov (.tmp 7), (some 185), none, [], none⟩,
  ⟨.load 5 true (.tmp 12), (some 186), none, [], none⟩,
  ⟨.bslice 1 5 [(.v (.int .i64 0)), .nil0, (.v (.int .i64 0)), (.v (.int .i64 0)), (.v (.int .i64 0))] [(0, 5, (.tmp 186))], (some 187), none, [1], none⟩,
  ⟨.append 47 5 56 (.tmp 185) (.tmp 187), (some 188), none, [0, 2], none⟩,
  ⟨.mov (.tmp 188), (some 7), none, [3, 3, 0, 1, 2, 3], none⟩]
def d38r35 : List RO := [
  ⟨.mov (.tmp 17), (some 151), none, [], none⟩,
  ⟨.bin .add (.tmp 151) (.con (.v (.int .i64 1))), (some 152), none, [0], none⟩,
  ⟨.mov (.tmp 152), (some 17), none, [1, 0, 1], none⟩]
def d38r36 : List RO := [
  ⟨.mov (.tmp 10), (some 34), none, [], none⟩,
  ⟨.bin .add (.tmp 34) (.con (.v (.int .i64 1))), (some 35), none, [0], none⟩,
  ⟨.mov (.tmp 35), (some 10), none, [1, 0, 1], none⟩]
def d38r37 : List RO := [
  ⟨.mov (.tmp 7), (some 189), none, [], none⟩,
  ⟨.mov (.tmp 189), (some 6), none, [0, 0], none⟩]
def d38 : DC := (.seq (.region false d38r0)
  (.seq (.region false d38r1)
  (.seq (.region false d38r2)
  (.seq (.seq (.region false d38r3)
  (.block 0 (.loop (.seq (.seq (.region false d38r4)
  (.cond (.tmp 33) .skip
  (.exit 0)))
  (.seq (.block 1 (.seq (.region false d38r5)
  (.seq (.seq (.region false d38r6)
  (.cond (.tmp 45) (.exit 1)
  .skip))
  (.seq (.region false d38r7)
  (.seq (.region false d38r8)
  (.block 2 (.seq (.region false d38r9)
  (.cond (.tmp 52) (.seq (.region false d38r10)
  (.cond (.tmp 58) (.seq (.region false d38r11)
  (.region false d38r12))
  .skip))
  (.seq (.region false d38r13)
  (.cond (.tmp 68) (.seq (.region false d38r14)
  (.block 3 (.loop (.seq (.seq (.region false d38r15)
  (.cond (.tmp 74) .skip
  (.exit 3)))
  (.seq (.block 4 (.seq (.region false d38r16)
  (.seq (.region false d38r17)
  (.cond (.tmp 100) (.seq (.region false d38r18)
  (.seq (.region false d38r19)
  (.region false d38r20)))
  .skip))))
  (.region false d38r21))))))
  (.seq (.region false d38r22)
  (.cond (.tmp 116) (.seq (.region false d38r23)
  (.seq (.region false d38r24)
  (.seq (.region false d38r25)
  (.region false d38r26))))
  (.seq (.region false d38r27)
  (.cond (.tmp 143) (.seq (.region false d38r28)
  (.block 5 (.loop (.seq (.seq (.region false d38r29)
  (.cond (.tmp 150) .skip
  (.exit 5)))
  (.seq (.block 6 (.seq (.region false d38r30)
  (.seq (.region false d38r31)
  (.seq (.region false d38r32)
  (.seq (.region false d38r33)
  (.region false d38r34))))))
  (.region false d38r35))))))
  .skip))))))))))))))
  (.region false d38r36))))))
  (.seq (.region false d38r37)
  .ret)))))
def d38res : List DRes := [.slot 6]
theorem c38 [Laid] : CodeOf Try.prog 38 190 d38 d38res := ⟨Try.f38, by kernel_rfl, by kernel_rfl, by kernel_rfl, by kernel_rfl, by kernel_rfl⟩
-- emendate/emendateref27.Valid
-- emendate/emendateref39.Hypergraph
def d12r0 : List RO := [
  ⟨.box (.tmp 0), (some 2), none, [], none⟩,
  ⟨.box (.tmp 1), (some 3), none, [], none⟩,
  ⟨.alloc [(.v (.int .i64 0)), .nil0], (some 4), none, [], none⟩]
def d12r1 : List RO := [
  ⟨.mov (.con .nil0), (some 5), none, [], none⟩]
def d12r2 : List RO := [
  ⟨.mov (.con (.v (.int .i64 0))), (some 6), none, [], none⟩]
def d12r3 : List RO := [
  ⟨.mov (.tmp 6), (some 13), none, [], none⟩,
  ⟨.addOff 0 (.tmp 3), (some 14), none, [], none⟩,
  ⟨.load 1 false (.tmp 14), (some 15), none, [1], none⟩,
  ⟨.bin .lss (.tmp 13) (.tmp 15), (some 16), none, [0, 2], none⟩]
def d12r4 : List RO := [
  ⟨.mov (.tmp 6), (some 19), none, [], none⟩,
  ⟨.mov (.tmp 19), (some 7), none, [0, 0], none⟩]
def d12r5 : List RO := [
  ⟨.mov (.tmp 7), (some 20), none, [], none⟩,
  ⟨.addOff 0 (.tmp 3), (some 21), none, [], none⟩,
  ⟨.load 1 false (.tmp 21), (some 22), none, [1], none⟩,
  ⟨.bin .lss (.tmp 20) (.tmp 22), (some 23), none, [0, 2], none⟩]
def d12r6 : List RO := [
  ⟨.mov (.con (.v (.int .i64 0))), (some 8), none, [], none⟩]
def d12r7 : List RO := [
  ⟨.mov (.tmp 8), (some 26), none, [], none⟩,
  ⟨.addOff 1 (.tmp 2), (some 27), none, [], none⟩,
  ⟨.load 1 false (.tmp 27), (some 28), none, [1], none⟩,
  ⟨.bin .lss (.tmp 26) (.tmp 28), (some 29), none, [0, 2], none⟩]
def d12r8 : List RO := [
  ⟨.mov (.tmp 5), (some 32), none, [], none⟩,
  ⟨.load 4 true (.tmp 2), (some 33), none, [], none⟩,
  ⟨.load 3 true (.tmp 3), (some 34), none, [], none⟩,
  ⟨.mov (.tmp 8), (some 35), none, [], none⟩,
  ⟨.mov (.tmp 6), (some 36), none, [], none⟩,
  ⟨.mov (.tmp 7), (some 37), none, [], none⟩,
  ⟨.build [(.v (.int .i64 0)), (.v (.int .i64 0)), (.v (.int .i64 0))] [(0, 1, (.tmp 35)), (1, 1, (.tmp 36)), (2, 1, (.tmp 37))], (some 38), none, [3, 4, 5], none⟩,
  ⟨.call 38 [(.tmp 33), (.tmp 34), (.tmp 38)], (some 39), none, [1, 2, 6], none⟩,
  ⟨.append 47 5 56 (.tmp 32) (.tmp 39), (some 40), none, [0, 7, 7], none⟩,
  ⟨.mov (.tmp 40), (some 5), none, [8, 8, 0, 1, 2, 3, 4, 5, 6, 7, 8], none⟩]
def d12r9 : List RO := [
  ⟨.mov (.tmp 8), (some 30), none, [], none⟩,
  ⟨.bin .add (.tmp 30) (.con (.v (.int .i64 1))), (some 31), none, [0], none⟩,
  ⟨.mov (.tmp 31), (some 8), none, [1, 0, 1], none⟩]
def d12r10 : List RO := [
  ⟨.mov (.tmp 7), (some 24), none, [], none⟩,
  ⟨.bin .add (.tmp 24) (.con (.v (.int .i64 1))), (some 25), none, [0], none⟩,
  ⟨.mov (.tmp 25), (some 7), none, [1, 0, 1], none⟩]
def d12r11 : List RO := [
  ⟨.mov (.tmp 6), (some 17), none, [], none⟩,
  ⟨.bin .add (.tmp 17) (.con (.v (.int .i64 1))), (some 18), none, [0], none⟩,
  ⟨.mov (.tmp 18), (some 6), none, [1, 0, 1], none⟩]
def d12r12 : List RO := [
  ⟨.load 4 true (.tmp 2), (some 41), none, [], none⟩,
  ⟨.load 3 true (.tmp 3), (some 42), none, [], none⟩,
  ⟨.call 39 [(.tmp 41), (.tmp 42)], (some 43), none, [0, 1], none⟩,
  ⟨.bin .sub (.tmp 43) (.con (.v (.int .i64 1))), (some 44), none, [2], none⟩,
  ⟨.mov (.tmp 44), (some 9), none, [3, 2, 0, 1, 2, 3], none⟩]
def d12r13 : List RO := [
  ⟨.mov (.con (.v (.int .i64 0))), (some 10), none, [], none⟩]
def d12r14 : List RO := [
  ⟨.mov (.tmp 10), (some 45), none, [], none⟩,
  ⟨.addOff 0 (.tmp 3), (some 46), none, [], none⟩,
  ⟨.load 1 false (.tmp 46), (some 47), none, [1], none⟩,
  ⟨.bin .lss (.tmp 45) (.tmp 47), (some 48), none, [0, 2], none⟩]
def d12r15 : List RO := [
  ⟨.addOff 2 (.tmp 3), (some 51), none, [], none⟩,
  ⟨.load 1 false (.tmp 51), (some 52), none, [0], none⟩,
  ⟨.mov (.tmp 10), (some 53), none, [], none⟩,
  ⟨.idxAddr 1 (.tmp 52) (.tmp 53), (some 54), none, [1, 2], none⟩,
  ⟨.load 1 false (.tmp 54), (some 55), none, [3], none⟩,
  ⟨.bin .lss (.tmp 55) (.con (.v (.int .i64 1099511627776))), (some 56), none, [4], none⟩]
def d12r16 : List RO := [
  ⟨.load 4 true (.tmp 2), (some 58), none, [], none⟩,
  ⟨.load 3 true (.tmp 3), (some 59), none, [], none⟩,
  ⟨.addOff 2 (.tmp 2), (some 60), none, [], none⟩,
  ⟨.load 1 false (.tmp 60), (some 61), none, [2], none⟩,
  ⟨.mov (.tmp 10), (some 62), none, [], none⟩,
  ⟨.build [(.v (.int .i64 0)), (.v (.int .i64 0)), (.v (.int .i64 0))] [(0, 1, (.tmp 61)), (2, 1, (.tmp 62))], (some 63), none, [3, 4], none⟩,
  ⟨.call 18 [(.tmp 58), (.tmp 59), (.tmp 63)], (some 64), none, [0, 1, 5], none⟩,
  ⟨.mov (.tmp 64), (some 57), none, [6], none⟩,
  ⟨.extract 0 (.tmp 57), (some 65), none, [7], none⟩,
  ⟨.extract 1 (.tmp 57), (some 66), none, [7], none⟩,
  ⟨.mov (.tmp 65), (some 11), none, [8, 6, 0, 1, 2, 3, 4, 5, 6, 7, 8], none⟩,
  ⟨.mov (.tmp 66), (some 12), none, [9, 10, 0, 1, 2, 3, 4, 5, 6, 7, 8, 9, 10], none⟩]
def d12r17 : List RO := [
  ⟨.mov (.tmp 5), (some 67), none, [], none⟩,
  ⟨.mov (.tmp 9), (some 68), none, [], none⟩,
  ⟨.mov (.tmp 11), (some 69), none, [], none⟩,
  ⟨.bslice 1 1 [(.v (.int .i64 0))] [(0, 1, (.tmp 69))], (some 70), none, [2], none⟩,
  ⟨.addOff 2 (.tmp 3), (some 71), none, [], none⟩,
  ⟨.load 1 false (.tmp 71), (some 72), none, [4], none⟩,
  ⟨.mov (.tmp 10), (some 73), none, [], none⟩,
  ⟨.idxAddr 1 (.tmp 72) (.tmp 73), (some 74), none, [5, 6], none⟩,
  ⟨.load 1 false (.tmp 74), (some 75), none, [7], none⟩,
  ⟨.mov (.tmp 10), (some 76), none, [], none⟩,
  ⟨.build [(.v (.int .i64 0)), (.v (.int .i64 0))] [(0, 1, (.con (.v (.int .i64 (-1))))), (1, 1, (.tmp 76))], (some 77), none, [9], none⟩,
  ⟨.build [(.v (.int .i64 0)), .nil0, (.v (.int .i64 0)), (.v (.int .i64 0)), (.v (.int .i64 0))] [(0, 1, (.tmp 68)), (1, 1, (.tmp 70)), (2, 1, (.tmp 75)), (3, 2, (.tmp 77))], (some 78), none, [1, 3, 8, 10], none⟩,
  ⟨.bslice 1 5 [(.v (.int .i64 0)), .nil0, (.v (.int .i64 0)), (.v (.int .i64 0)), (.v (.int .i64 0))] [(0, 5, (.tmp 78))], (some 79), none, [11], none⟩,
  ⟨.append 47 5 56 (.tmp 67) (.tmp 79), (some 80), none, [0, 12], none⟩,
  ⟨.mov (.tmp 80), (some 5), none, [13, 13, 0, 1, 2, 3, 4, 5, 6, 7, 8, 9, 10, 11, 12, 13], none⟩]
def d12r18 : List RO := [
  ⟨.mov (.tmp 10), (some 49), none, [], none⟩,
  ⟨.bin .add (.tmp 49) (.con (.v (.int .i64 1))), (some 50), none, [0], none⟩,
  ⟨.mov (.tmp 50), (some 10), none, [1, 0, 1], none⟩]
def d12r19 : List RO := [
  ⟨.mov (.tmp 9), (some 81), none, [], none⟩,
  ⟨.bin .add (.tmp 81) (.con (.v (.int .i64 1))), (some 82), none, [0], none⟩,
  ⟨.mov (.tmp 5), (some 83), none, [], none⟩,
  ⟨.build [(.v (.int .i64 0)), .nil0] [(0, 1, (.tmp 82)), (1, 1, (.tmp 83))], (some 84), none, [1, 2], none⟩,
  ⟨.store 2 (.tmp 4) (.tmp 84), none, none, [3, 0, 1, 2, 3], none⟩]
def d12 : DC := (.seq (.region false d12r0)
  (.seq (.region false d12r1)
  (.seq (.seq (.region false d12r2)
  (.block 0 (.loop (.seq (.seq (.region false d12r3)
  (.cond (.tmp 16) .skip
  (.exit 0)))
  (.seq (.block 1 (.seq (.region false d12r4)
  (.block 2 (.loop (.seq (.seq (.region false d12r5)
  (.cond (.tmp 23) .skip
  (.exit 2)))
  (.seq (.block 3 (.seq (.region false d12r6)
  (.block 4 (.loop (.seq (.seq (.region false d12r7)
  (.cond (.tmp 29) .skip
  (.exit 4)))
  (.seq (.block 5 (.region false d12r8))
  (.region false d12r9)))))))
  (.region false d12r10)))))))
  (.region false d12r11))))))
  (.seq (.region false d12r12)
  (.seq (.seq (.region false d12r13)
  (.block 6 (.loop (.seq (.seq (.region false d12r14)
  (.cond (.tmp 48) .skip
  (.exit 6)))
  (.seq (.block 7 (.seq (.region false d12r15)
  (.cond (.tmp 56) (.seq (.region false d12r16)
  (.region false d12r17))
  .skip)))
  (.region false d12r18))))))
  (.seq (.region false d12r19)
  .ret))))))
def d12res : List DRes := [.cell 4 2 true]
theorem c12 [Laid] : CodeOf Try.prog 12 85 d12 d12res := ⟨Try.f12, by kernel_rfl, by kernel_rfl, by kernel_rfl, by kernel_rfl, by kernel_rfl⟩

end Go.Proofs
