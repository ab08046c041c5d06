import Derived.Test.YtbncgpjkfglhdaaDoorProg
import Derived.KernelRfl
import Derived.Test.YtbncgpjkfglhdaaDoorDmQ
namespace Go.Proofs
open Go.DM
-- emendate/emendatelaw43.IncrementKeep
def d3r0 : List RO := [
  ⟨.box (.tmp 0), (some 3), none, [], none⟩,
  ⟨.box (.tmp 1), (some 4), none, [], none⟩,
  ⟨.mov (.con (.v (.bool false))), (some 6), none, [], none⟩]
def d3r1 : List RO := [
  ⟨.mov (.tmp 2), (some 11), none, [], none⟩,
  ⟨.bin .gtr (.tmp 11) (.con (.v (.int .i64 1000))), (some 12), none, [0], none⟩]
def d3r2 : List RO := [
  ⟨.call 4 [], (some 13), none, [], none⟩,
  ⟨.mov (.tmp 13), (some 6), none, [0, 0, 0], none⟩]
def d3r3 : List RO := [
  ⟨.load 3 true (.tmp 3), (some 15), none, [], none⟩,
  ⟨.load 3 true (.tmp 4), (some 16), none, [], none⟩,
  ⟨.mov (.tmp 2), (some 17), none, [], none⟩,
  ⟨.call 5 [(.tmp 15), (.tmp 16), (.tmp 17)], (some 18), none, [0, 1, 2], none⟩,
  ⟨.mov (.tmp 18), (some 14), none, [3], none⟩,
  ⟨.extract 0 (.tmp 14), (some 19), none, [4], none⟩,
  ⟨.extract 1 (.tmp 14), (some 20), none, [4], none⟩,
  ⟨.alloc [(.v (.int .i64 0)), (.v (.int .i64 0)), (.v (.int .i64 0))], (some 7), none, [], none⟩,
  ⟨.store 3 (.tmp 7) (.tmp 19), none, none, [7, 5, 3, 0, 1, 2, 3, 4, 5, 7], none⟩,
  ⟨.mov (.tmp 20), (some 8), none, [6, 8, 0, 1, 2, 3, 4, 5, 6, 7, 8], none⟩]
def d3r4 : List RO := [
  ⟨.load 3 true (.tmp 3), (some 22), none, [], none⟩,
  ⟨.load 3 true (.tmp 4), (some 23), none, [], none⟩,
  ⟨.mov (.tmp 2), (some 24), none, [], none⟩,
  ⟨.call 6 [(.tmp 22), (.tmp 23), (.tmp 24)], (some 25), none, [0, 1, 2], none⟩,
  ⟨.mov (.tmp 25), (some 21), none, [3], none⟩,
  ⟨.extract 0 (.tmp 21), (some 26), none, [4], none⟩,
  ⟨.extract 1 (.tmp 21), (some 27), none, [4], none⟩,
  ⟨.alloc [(.v (.int .i64 0)), (.v (.int .i64 0)), (.v (.int .i64 0))], (some 9), none, [], none⟩,
  ⟨.store 3 (.tmp 9) (.tmp 26), none, none, [7, 5, 3, 0, 1, 2, 3, 4, 5, 7], none⟩,
  ⟨.mov (.tmp 27), (some 10), none, [6, 8, 0, 1, 2, 3, 4, 5, 6, 7, 8], none⟩]
def d3r5 : List RO := [
  ⟨.call 4 [], (some 28), none, [], none⟩,
  ⟨.mov (.tmp 28), (some 29), none, [0, 0], none⟩,
  ⟨.load 3 true (.tmp 7), (some 30), (some (29, true)), [1], none⟩,
  ⟨.load 3 true (.tmp 9), (some 31), (some (29, true)), [1], none⟩,
  ⟨.eqT false true [(.int .i64), (.int .i64), (.int .i64)] (.tmp 30) (.tmp 31), (some 32), (some (29, true)), [2, 3, 1], none⟩,
  ⟨.pick (.tmp 29) (.tmp 32) (.con (.v (.bool false))), (some 33), none, [1, 4], none⟩,
  ⟨.mov (.tmp 33), (some 34), none, [5, 1], none⟩,
  ⟨.mov (.tmp 8), (some 35), (some (34, true)), [6], none⟩,
  ⟨.mov (.tmp 10), (some 36), (some (34, true)), [6], none⟩,
  ⟨.eqT false false [.bool] (.tmp 35) (.tmp 36), (some 37), (some (34, true)), [7, 8, 6], none⟩,
  ⟨.pick (.tmp 34) (.tmp 37) (.con (.v (.bool false))), (some 38), none, [6, 9], none⟩,
  ⟨.mov (.tmp 38), (some 6), none, [10, 6, 0, 1, 2, 3, 4, 5, 6, 7, 8, 9, 10], none⟩]
def d3 : DC := (.seq (.region false d3r0)
  (.seq (.seq (.region false d3r1)
  (.cond (.tmp 12) (.seq (.region false d3r2)
  .ret)
  .skip))
  (.seq (.region false d3r3)
  (.seq (.region false d3r4)
  (.seq (.region false d3r5)
  .ret)))))
def d3res : List DRes := [.slot 6]
theorem c3 : CodeOf Tryd.prog 3 39 d3 d3res := ⟨Tryd.f3, by kernel_rfl, by kernel_rfl, by kernel_rfl, by kernel_rfl⟩
-- emendate/emendatelaw43.awake
def d4r0 : List RO := [
  ⟨.mov (.con (.v (.bool false))), (some 0), none, [], none⟩]
def d4r1 : List RO := [
  ⟨.build [(.v (.int .i64 0)), (.v (.int .i64 0)), (.v (.int .i64 0))] [(0, 1, (.con (.v (.int .i64 1)))), (1, 1, (.con (.v (.int .i64 1)))), (2, 1, (.con (.v (.int .i64 1))))], (some 15), none, [], none⟩,
  ⟨.alloc [(.v (.int .i64 0)), (.v (.int .i64 0)), (.v (.int .i64 0))], (some 1), none, [], none⟩,
  ⟨.store 3 (.tmp 1) (.tmp 15), none, none, [1, 0, 0, 1], none⟩]
def d4r2 : List RO := [
  ⟨.build [(.v (.int .i64 0)), (.v (.int .i64 0)), (.v (.int .i64 0))] [(0, 1, (.con (.v (.int .i64 2)))), (1, 1, (.con (.v (.int .i64 0)))), (2, 1, (.con (.v (.int .i64 2))))], (some 17), none, [], none⟩,
  ⟨.load 3 true (.tmp 1), (some 18), none, [], none⟩,
  ⟨.call 5 [(.tmp 17), (.tmp 18), (.con (.v (.int .i64 7)))], (some 19), none, [0, 1], none⟩,
  ⟨.mov (.tmp 19), (some 16), none, [2], none⟩,
  ⟨.extract 0 (.tmp 16), (some 20), none, [3], none⟩,
  ⟨.extract 1 (.tmp 16), (some 21), none, [3], none⟩,
  ⟨.alloc [(.v (.int .i64 0)), (.v (.int .i64 0)), (.v (.int .i64 0))], (some 2), none, [], none⟩,
  ⟨.store 3 (.tmp 2) (.tmp 20), none, none, [6, 4, 2, 0, 1, 2, 3, 4, 6], none⟩,
  ⟨.mov (.tmp 21), (some 3), none, [5, 7, 0, 1, 2, 3, 4, 5, 6, 7], none⟩]
def d4r3 : List RO := [
  ⟨.build [(.v (.int .i64 0)), (.v (.int .i64 0)), (.v (.int .i64 0))] [(0, 1, (.con (.v (.int .i64 1)))), (1, 1, (.con (.v (.int .i64 4)))), (2, 1, (.con (.v (.int .i64 6))))], (some 23), none, [], none⟩,
  ⟨.load 3 true (.tmp 1), (some 24), none, [], none⟩,
  ⟨.call 5 [(.tmp 23), (.tmp 24), (.con (.v (.int .i64 7)))], (some 25), none, [0, 1], none⟩,
  ⟨.mov (.tmp 25), (some 22), none, [2], none⟩,
  ⟨.extract 0 (.tmp 22), (some 26), none, [3], none⟩,
  ⟨.extract 1 (.tmp 22), (some 27), none, [3], none⟩,
  ⟨.alloc [(.v (.int .i64 0)), (.v (.int .i64 0)), (.v (.int .i64 0))], (some 4), none, [], none⟩,
  ⟨.store 3 (.tmp 4) (.tmp 26), none, none, [6, 4, 2, 0, 1, 2, 3, 4, 6], none⟩,
  ⟨.mov (.tmp 27), (some 5), none, [5, 7, 0, 1, 2, 3, 4, 5, 6, 7], none⟩]
def d4r4 : List RO := [
  ⟨.build [(.v (.int .i64 0)), (.v (.int .i64 0)), (.v (.int .i64 0))] [(1, 1, (.con (.v (.int .i64 2)))), (2, 1, (.con (.v (.int .i64 4))))], (some 29), none, [], none⟩,
  ⟨.load 3 true (.tmp 1), (some 30), none, [], none⟩,
  ⟨.call 5 [(.tmp 29), (.tmp 30), (.con (.v (.int .i64 7)))], (some 31), none, [0, 1], none⟩,
  ⟨.mov (.tmp 31), (some 28), none, [2], none⟩,
  ⟨.extract 0 (.tmp 28), (some 32), none, [3], none⟩,
  ⟨.extract 1 (.tmp 28), (some 33), none, [3], none⟩,
  ⟨.alloc [(.v (.int .i64 0)), (.v (.int .i64 0)), (.v (.int .i64 0))], (some 6), none, [], none⟩,
  ⟨.store 3 (.tmp 6) (.tmp 32), none, none, [6, 4, 2, 0, 1, 2, 3, 4, 6], none⟩,
  ⟨.mov (.tmp 33), (some 7), none, [5, 7, 0, 1, 2, 3, 4, 5, 6, 7], none⟩]
def d4r5 : List RO := [
  ⟨.build [(.v (.int .i64 0)), (.v (.int .i64 0)), (.v (.int .i64 0))] [(1, 1, (.con (.v (.int .i64 0)))), (2, 1, (.con (.v (.int .i64 1))))], (some 35), none, [], none⟩,
  ⟨.load 3 true (.tmp 1), (some 36), none, [], none⟩,
  ⟨.call 5 [(.tmp 35), (.tmp 36), (.con (.v (.int .i64 7)))], (some 37), none, [0, 1], none⟩,
  ⟨.mov (.tmp 37), (some 34), none, [2], none⟩,
  ⟨.extract 0 (.tmp 34), (some 38), none, [3], none⟩,
  ⟨.extract 1 (.tmp 34), (some 39), none, [3], none⟩,
  ⟨.alloc [(.v (.int .i64 0)), (.v (.int .i64 0)), (.v (.int .i64 0))], (some 8), none, [], none⟩,
  ⟨.store 3 (.tmp 8) (.tmp 38), none, none, [6, 4, 2, 0, 1, 2, 3, 4, 6], none⟩,
  ⟨.mov (.tmp 39), (some 9), none, [5, 7, 0, 1, 2, 3, 4, 5, 6, 7], none⟩]
def d4r6 : List RO := [
  ⟨.build [(.v (.int .i64 0)), (.v (.int .i64 0)), (.v (.int .i64 0))] [(1, 1, (.con (.v (.int .i64 4)))), (2, 1, (.con (.v (.int .i64 6))))], (some 41), none, [], none⟩,
  ⟨.build [(.v (.int .i64 0)), (.v (.int .i64 0)), (.v (.int .i64 0))] [(0, 1, (.con (.v (.int .i64 1)))), (2, 1, (.con (.v (.int .i64 2))))], (some 42), none, [], none⟩,
  ⟨.call 5 [(.tmp 41), (.tmp 42), (.con (.v (.int .i64 7)))], (some 43), none, [0, 1], none⟩,
  ⟨.mov (.tmp 43), (some 40), none, [2], none⟩,
  ⟨.extract 0 (.tmp 40), (some 44), none, [3], none⟩,
  ⟨.extract 1 (.tmp 40), (some 45), none, [3], none⟩,
  ⟨.alloc [(.v (.int .i64 0)), (.v (.int .i64 0)), (.v (.int .i64 0))], (some 10), none, [], none⟩,
  ⟨.store 3 (.tmp 10) (.tmp 44), none, none, [6, 4, 2, 0, 1, 2, 3, 4, 6], none⟩,
  ⟨.mov (.tmp 45), (some 11), none, [5, 7, 0, 1, 2, 3, 4, 5, 6, 7], none⟩]
def d4r7 : List RO := [
  ⟨.build [(.v (.int .i64 0)), (.v (.int .i64 0)), (.v (.int .i64 0)), .nil0] [(0, 1, (.con (.v (.int .i64 1)))), (1, 1, (.con (.v (.int .i64 1))))], (some 47), none, [], none⟩,
  ⟨.build [(.v (.int .i64 0)), (.v (.int .i64 0)), .nil0] [], (some 48), none, [], none⟩,
  ⟨.bslice 1 1 [(.v (.int .i64 0))] [(0, 1, (.con (.v (.int .i64 1))))], (some 49), none, [], none⟩,
  ⟨.build [.nil0, .nil0, (.v (.int .i64 0))] [(1, 1, (.tmp 49))], (some 50), none, [2], none⟩,
  ⟨.build [(.v (.int .i64 0)), (.v (.int .i64 0)), (.v (.int .i64 0))] [], (some 51), none, [], none⟩,
  ⟨.call 7 [(.tmp 47), (.tmp 48), (.tmp 50), (.tmp 51)], (some 52), none, [0, 1, 3, 4], none⟩,
  ⟨.mov (.tmp 52), (some 46), none, [5], none⟩,
  ⟨.extract 0 (.tmp 46), (some 53), none, [6], none⟩,
  ⟨.extract 1 (.tmp 46), (some 54), none, [6], none⟩,
  ⟨.extract 2 (.tmp 46), (some 55), none, [6], none⟩,
  ⟨.alloc [(.v (.int .i64 0)), (.v (.int .i64 0)), .nil0], (some 12), none, [], none⟩,
  ⟨.store 3 (.tmp 12) (.tmp 53), none, none, [10, 7, 5, 0, 1, 2, 3, 4, 5, 6, 7, 10], none⟩,
  ⟨.mov (.tmp 54), (some 13), none, [8, 11, 0, 1, 2, 3, 4, 5, 6, 7, 8, 10, 11], none⟩,
  ⟨.mov (.tmp 55), (some 14), none, [9, 12, 0, 1, 2, 3, 4, 5, 6, 7, 8, 9, 10, 11, 12], none⟩]
def d4r8 : List RO := [
  ⟨.mov (.tmp 3), (some 56), none, [], none⟩,
  ⟨.mov (.tmp 56), (some 57), none, [0], none⟩,
  ⟨.load 3 true (.tmp 2), (some 58), (some (57, true)), [1], none⟩,
  ⟨.build [(.v (.int .i64 0)), (.v (.int .i64 0)), (.v (.int .i64 0))] [(0, 1, (.con (.v (.int .i64 2)))), (1, 1, (.con (.v (.int .i64 0)))), (2, 1, (.con (.v (.int .i64 2))))], (some 59), (some (57, true)), [1], none⟩,
  ⟨.eqT false true [(.int .i64), (.int .i64), (.int .i64)] (.tmp 58) (.tmp 59), (some 60), (some (57, true)), [2, 3, 1], none⟩,
  ⟨.pick (.tmp 57) (.tmp 60) (.con (.v (.bool false))), (some 61), none, [1, 4], none⟩,
  ⟨.mov (.tmp 61), (some 62), none, [5, 1], none⟩,
  ⟨.mov (.tmp 5), (some 63), (some (62, true)), [6], none⟩,
  ⟨.pick (.tmp 62) (.tmp 63) (.con (.v (.bool false))), (some 64), none, [6, 7], none⟩,
  ⟨.mov (.tmp 64), (some 65), none, [8, 6], none⟩,
  ⟨.load 3 true (.tmp 4), (some 66), (some (65, true)), [9], none⟩,
  ⟨.build [(.v (.int .i64 0)), (.v (.int .i64 0)), (.v (.int .i64 0))] [(0, 1, (.con (.v (.int .i64 1)))), (1, 1, (.con (.v (.int .i64 4)))), (2, 1, (.con (.v (.int .i64 6))))], (some 67), (some (65, true)), [9], none⟩,
  ⟨.eqT false true [(.int .i64), (.int .i64), (.int .i64)] (.tmp 66) (.tmp 67), (some 68), (some (65, true)), [10, 11, 9], none⟩,
  ⟨.pick (.tmp 65) (.tmp 68) (.con (.v (.bool false))), (some 69), none, [9, 12], none⟩,
  ⟨.mov (.tmp 69), (some 70), none, [13, 9], none⟩,
  ⟨.mov (.tmp 7), (some 71), (some (70, true)), [14], none⟩,
  ⟨.un .not (.tmp 71), (some 72), (some (70, true)), [15, 14], none⟩,
  ⟨.pick (.tmp 70) (.tmp 72) (.con (.v (.bool false))), (some 73), none, [14, 16], none⟩,
  ⟨.mov (.tmp 73), (some 74), none, [17, 14], none⟩,
  ⟨.mov (.tmp 9), (some 75), (some (74, true)), [18], none⟩,
  ⟨.un .not (.tmp 75), (some 76), (some (74, true)), [19, 18], none⟩,
  ⟨.pick (.tmp 74) (.tmp 76) (.con (.v (.bool false))), (some 77), none, [18, 20], none⟩,
  ⟨.mov (.tmp 77), (some 78), none, [21, 18], none⟩,
  ⟨.mov (.tmp 11), (some 79), (some (78, true)), [22], none⟩,
  ⟨.pick (.tmp 78) (.tmp 79) (.con (.v (.bool false))), (some 80), none, [22, 23], none⟩,
  ⟨.mov (.tmp 80), (some 81), none, [24, 22], none⟩,
  ⟨.load 3 true (.tmp 10), (some 82), (some (81, true)), [25], none⟩,
  ⟨.build [(.v (.int .i64 0)), (.v (.int .i64 0)), (.v (.int .i64 0))] [(1, 1, (.con (.v (.int .i64 8)))), (2, 1, (.con (.v (.int .i64 10))))], (some 83), (some (81, true)), [25], none⟩,
  ⟨.eqT false true [(.int .i64), (.int .i64), (.int .i64)] (.tmp 82) (.tmp 83), (some 84), (some (81, true)), [26, 27, 25], none⟩,
  ⟨.pick (.tmp 81) (.tmp 84) (.con (.v (.bool false))), (some 85), none, [25, 28], none⟩,
  ⟨.mov (.tmp 85), (some 86), none, [29, 25], none⟩,
  ⟨.mov (.tmp 14), (some 87), (some (86, true)), [30], none⟩,
  ⟨.bin .eql (.tmp 87) (.con (.v (.int .i64 13))), (some 88), (some (86, true)), [31, 30], none⟩,
  ⟨.pick (.tmp 86) (.tmp 88) (.con (.v (.bool false))), (some 89), none, [30, 32], none⟩,
  ⟨.mov (.tmp 89), (some 0), none, [33, 30, 0, 1, 2, 3, 4, 5, 6, 7, 8, 9, 10, 11, 12, 13, 14, 15, 16, 17, 18, 19, 20, 21, 22, 23, 24, 25, 26, 27, 28, 29, 30, 31, 32, 33], none⟩]
def d4 : DC := (.seq (.region false d4r0)
  (.seq (.region false d4r1)
  (.seq (.region false d4r2)
  (.seq (.region false d4r3)
  (.seq (.region false d4r4)
  (.seq (.region false d4r5)
  (.seq (.region false d4r6)
  (.seq (.region false d4r7)
  (.seq (.region false d4r8)
  .ret)))))))))
def d4res : List DRes := [.slot 0]
theorem c4 : CodeOf Tryd.prog 4 90 d4 d4res := ⟨Tryd.f4, by kernel_rfl, by kernel_rfl, by kernel_rfl, by kernel_rfl⟩
-- emendate/increment.Keep
def d5r0 : List RO := [
  ⟨.box (.tmp 0), (some 3), none, [], none⟩,
  ⟨.box (.tmp 1), (some 4), none, [], none⟩,
  ⟨.alloc [(.v (.int .i64 0)), (.v (.int .i64 0)), (.v (.int .i64 0))], (some 6), none, [], none⟩,
  ⟨.mov (.con (.v (.bool false))), (some 7), none, [], none⟩]
def d5r1 : List RO := [
  ⟨.addOff 0 (.tmp 3), (some 9), none, [], none⟩,
  ⟨.load 1 false (.tmp 9), (some 10), none, [0], none⟩,
  ⟨.bin .lss (.tmp 10) (.con (.v (.int .i64 0))), (some 11), none, [1], none⟩,
  ⟨.mov (.tmp 11), (some 12), none, [2], none⟩,
  ⟨.addOff 1 (.tmp 3), (some 13), (some (12, false)), [3], none⟩,
  ⟨.load 1 false (.tmp 13), (some 14), (some (12, false)), [4, 3], none⟩,
  ⟨.bin .lss (.tmp 14) (.con (.v (.int .i64 0))), (some 15), (some (12, false)), [5, 3], none⟩,
  ⟨.pick (.tmp 12) (.con (.v (.bool true))) (.tmp 15), (some 16), none, [3, 6], none⟩,
  ⟨.mov (.tmp 16), (some 17), none, [7, 3], none⟩,
  ⟨.addOff 1 (.tmp 3), (some 18), (some (17, false)), [8], none⟩,
  ⟨.load 1 false (.tmp 18), (some 19), (some (17, false)), [9, 8], none⟩,
  ⟨.addOff 2 (.tmp 3), (some 20), (some (17, false)), [8], none⟩,
  ⟨.load 1 false (.tmp 20), (some 21), (some (17, false)), [11, 8], none⟩,
  ⟨.bin .gtr (.tmp 19) (.tmp 21), (some 22), (some (17, false)), [10, 12, 8], none⟩,
  ⟨.pick (.tmp 17) (.con (.v (.bool true))) (.tmp 22), (some 23), none, [8, 13], none⟩,
  ⟨.mov (.tmp 23), (some 24), none, [14, 8], none⟩,
  ⟨.addOff 2 (.tmp 3), (some 25), (some (24, false)), [15], none⟩,
  ⟨.load 1 false (.tmp 25), (some 26), (some (24, false)), [16, 15], none⟩,
  ⟨.mov (.tmp 2), (some 27), (some (24, false)), [15], none⟩,
  ⟨.bin .geq (.tmp 26) (.tmp 27), (some 28), (some (24, false)), [17, 18, 15], none⟩,
  ⟨.pick (.tmp 24) (.con (.v (.bool true))) (.tmp 28), (some 29), none, [15, 19], none⟩,
  ⟨.mov (.tmp 29), (some 30), none, [20, 15], none⟩,
  ⟨.addOff 0 (.tmp 4), (some 31), (some (30, false)), [21], none⟩,
  ⟨.load 1 false (.tmp 31), (some 32), (some (30, false)), [22, 21], none⟩,
  ⟨.bin .lss (.tmp 32) (.con (.v (.int .i64 0))), (some 33), (some (30, false)), [23, 21], none⟩,
  ⟨.pick (.tmp 30) (.con (.v (.bool true))) (.tmp 33), (some 34), none, [21, 24], none⟩,
  ⟨.mov (.tmp 34), (some 35), none, [25, 21], none⟩,
  ⟨.addOff 1 (.tmp 4), (some 36), (some (35, false)), [26], none⟩,
  ⟨.load 1 false (.tmp 36), (some 37), (some (35, false)), [27, 26], none⟩,
  ⟨.bin .lss (.tmp 37) (.con (.v (.int .i64 0))), (some 38), (some (35, false)), [28, 26], none⟩,
  ⟨.pick (.tmp 35) (.con (.v (.bool true))) (.tmp 38), (some 39), none, [26, 29], none⟩,
  ⟨.mov (.tmp 39), (some 40), none, [30, 26], none⟩,
  ⟨.addOff 2 (.tmp 4), (some 41), (some (40, false)), [31], none⟩,
  ⟨.load 1 false (.tmp 41), (some 42), (some (40, false)), [32, 31], none⟩,
  ⟨.bin .lss (.tmp 42) (.con (.v (.int .i64 0))), (some 43), (some (40, false)), [33, 31], none⟩,
  ⟨.pick (.tmp 40) (.con (.v (.bool true))) (.tmp 43), (some 44), none, [31, 34], none⟩,
  ⟨.mov (.tmp 44), (some 45), none, [35, 31], none⟩,
  ⟨.addOff 2 (.tmp 4), (some 46), (some (45, false)), [36], none⟩,
  ⟨.load 1 false (.tmp 46), (some 47), (some (45, false)), [37, 36], none⟩,
  ⟨.bin .gtr (.tmp 47) (.con (.v (.int .i64 60))), (some 48), (some (45, false)), [38, 36], none⟩,
  ⟨.pick (.tmp 45) (.con (.v (.bool true))) (.tmp 48), (some 49), none, [36, 39], none⟩,
  ⟨.mov (.tmp 49), (some 50), none, [40, 36], none⟩,
  ⟨.addOff 0 (.tmp 4), (some 51), (some (50, false)), [41], none⟩,
  ⟨.load 1 false (.tmp 51), (some 52), (some (50, false)), [42, 41], none⟩,
  ⟨.mov (.tmp 2), (some 53), (some (50, false)), [41], none⟩,
  ⟨.bin .sub (.tmp 53) (.con (.v (.int .i64 1))), (some 54), (some (50, false)), [44, 41], none⟩,
  ⟨.bin .quo (.tmp 54) (.con (.v (.int .i64 2))), (some 55), (some (50, false)), [45, 41], none⟩,
  ⟨.bin .gtr (.tmp 52) (.tmp 55), (some 56), (some (50, false)), [43, 46, 41], none⟩,
  ⟨.pick (.tmp 50) (.con (.v (.bool true))) (.tmp 56), (some 57), none, [41, 47], none⟩,
  ⟨.mov (.tmp 57), (some 58), none, [48, 41], none⟩,
  ⟨.addOff 1 (.tmp 4), (some 59), (some (58, false)), [49], none⟩,
  ⟨.load 1 false (.tmp 59), (some 60), (some (58, false)), [50, 49], none⟩,
  ⟨.mov (.tmp 2), (some 61), (some (58, false)), [49], none⟩,
  ⟨.bin .sub (.tmp 61) (.con (.v (.int .i64 1))), (some 62), (some (58, false)), [52, 49], none⟩,
  ⟨.bin .quo (.tmp 62) (.con (.v (.int .i64 2))), (some 63), (some (58, false)), [53, 49], none⟩,
  ⟨.addOff 0 (.tmp 4), (some 64), (some (58, false)), [49], none⟩,
  ⟨.load 1 false (.tmp 64), (some 65), (some (58, false)), [55, 49], none⟩,
  ⟨.bin .sub (.tmp 63) (.tmp 65), (some 66), (some (58, false)), [54, 56, 49], none⟩,
  ⟨.bin .gtr (.tmp 60) (.tmp 66), (some 67), (some (58, false)), [51, 57, 49], none⟩,
  ⟨.pick (.tmp 58) (.con (.v (.bool true))) (.tmp 67), (some 68), none, [49, 58], none⟩]
def d5r2 : List RO := [
  ⟨.build [(.v (.int .i64 0)), (.v (.int .i64 0)), (.v (.int .i64 0))] [], (some 69), none, [], none⟩,
  ⟨.store 3 (.tmp 6) (.tmp 69), none, none, [0, 0], none⟩,
  ⟨.mov (.con (.v (.bool false))), (some 7), none, [1, 0, 1], none⟩]
def d5r3 : List RO := [
  ⟨.addOff 2 (.tmp 3), (some 70), none, [], none⟩,
  ⟨.load 1 false (.tmp 70), (some 71), none, [0], none⟩,
  ⟨.call 8 [(.tmp 71)], (some 72), none, [1], none⟩,
  ⟨.addOff 0 (.tmp 4), (some 73), none, [], none⟩,
  ⟨.load 1 false (.tmp 73), (some 74), none, [3], none⟩,
  ⟨.bin .leq (.tmp 72) (.tmp 74), (some 75), none, [2, 4], none⟩]
def d5r4 : List RO := [
  ⟨.load 3 true (.tmp 3), (some 76), none, [], none⟩,
  ⟨.store 3 (.tmp 6) (.tmp 76), none, none, [0, 0], none⟩,
  ⟨.mov (.con (.v (.bool true))), (some 7), none, [1, 0, 1], none⟩]
def d5r5 : List RO := [
  ⟨.addOff 1 (.tmp 3), (some 77), none, [], none⟩,
  ⟨.load 1 false (.tmp 77), (some 78), none, [0], none⟩,
  ⟨.bin .quo (.tmp 78) (.con (.v (.int .i64 2))), (some 79), none, [1], none⟩,
  ⟨.addOff 0 (.tmp 4), (some 80), none, [], none⟩,
  ⟨.load 1 false (.tmp 80), (some 81), none, [3], none⟩,
  ⟨.addOff 1 (.tmp 4), (some 82), none, [], none⟩,
  ⟨.load 1 false (.tmp 82), (some 83), none, [5], none⟩,
  ⟨.bin .add (.tmp 81) (.tmp 83), (some 84), none, [4, 6], none⟩,
  ⟨.bin .geq (.tmp 79) (.tmp 84), (some 85), none, [2, 7], none⟩]
def d5r6 : List RO := [
  ⟨.addOff 2 (.tmp 4), (some 86), none, [], none⟩,
  ⟨.load 1 false (.tmp 86), (some 87), none, [0], none⟩,
  ⟨.addOff 1 (.tmp 4), (some 88), none, [], none⟩,
  ⟨.load 1 false (.tmp 88), (some 89), none, [2], none⟩,
  ⟨.bin .sub (.tmp 87) (.tmp 89), (some 90), none, [1, 3], none⟩,
  ⟨.bin .mul (.con (.v (.int .i64 2))) (.tmp 90), (some 91), none, [4], none⟩,
  ⟨.mov (.tmp 91), (some 8), none, [5, 0, 1, 2, 3, 4, 5], none⟩]
def d5r7 : List RO := [
  ⟨.addOff 0 (.tmp 3), (some 92), none, [], none⟩,
  ⟨.load 1 false (.tmp 92), (some 93), none, [0], none⟩,
  ⟨.addOff 1 (.tmp 3), (some 94), none, [], none⟩,
  ⟨.load 1 false (.tmp 94), (some 95), none, [2], none⟩,
  ⟨.mov (.tmp 8), (some 96), none, [], none⟩,
  ⟨.bin .add (.tmp 95) (.tmp 96), (some 97), none, [3, 4], none⟩,
  ⟨.addOff 2 (.tmp 3), (some 98), none, [], none⟩,
  ⟨.load 1 false (.tmp 98), (some 99), none, [6], none⟩,
  ⟨.mov (.tmp 8), (some 100), none, [], none⟩,
  ⟨.bin .add (.tmp 99) (.tmp 100), (some 101), none, [7, 8], none⟩,
  ⟨.build [(.v (.int .i64 0)), (.v (.int .i64 0)), (.v (.int .i64 0))] [(0, 1, (.tmp 93)), (1, 1, (.tmp 97)), (2, 1, (.tmp 101))], (some 102), none, [1, 5, 9], none⟩,
  ⟨.store 3 (.tmp 6) (.tmp 102), none, none, [10, 0, 1, 2, 3, 4, 5, 6, 7, 8, 9, 10], none⟩,
  ⟨.mov (.con (.v (.bool true))), (some 7), none, [11, 0, 1, 2, 3, 4, 5, 6, 7, 8, 9, 10, 11], none⟩]
def d5r8 : List RO := [
  ⟨.build [(.v (.int .i64 0)), (.v (.int .i64 0)), (.v (.int .i64 0))] [], (some 103), none, [], none⟩,
  ⟨.store 3 (.tmp 6) (.tmp 103), none, none, [0, 0], none⟩,
  ⟨.mov (.con (.v (.bool false))), (some 7), none, [1, 0, 1], none⟩]
def d5 : DC := (.seq (.region false d5r0)
  (.seq (.seq (.region false d5r1)
  (.cond (.tmp 68) (.seq (.region false d5r2)
  .ret)
  .skip))
  (.seq (.seq (.region true d5r3)
  (.cond (.tmp 75) (.seq (.region false d5r4)
  .ret)
  .skip))
  (.seq (.seq (.region false d5r5)
  (.cond (.tmp 85) (.seq (.region false d5r6)
  (.seq (.region false d5r7)
  .ret))
  .skip))
  (.seq (.region false d5r8)
  .ret)))))
def d5res : List DRes := [.cell 6 3 true, .slot 7]
theorem c5 : CodeOf Tryd.prog 5 104 d5 d5res := ⟨Tryd.f5, by kernel_rfl, by kernel_rfl, by kernel_rfl, by kernel_rfl⟩
-- emendate/emendateref43.Keep
def d6r0 : List RO := [
  ⟨.box (.tmp 0), (some 3), none, [], none⟩,
  ⟨.box (.tmp 1), (some 4), none, [], none⟩,
  ⟨.alloc [(.v (.int .i64 0)), (.v (.int .i64 0)), (.v (.int .i64 0))], (some 6), none, [], none⟩,
  ⟨.mov (.con (.v (.bool false))), (some 7), none, [], none⟩]
def d6r1 : List RO := [
  ⟨.addOff 0 (.tmp 3), (some 10), none, [], none⟩,
  ⟨.load 1 false (.tmp 10), (some 11), none, [0], none⟩,
  ⟨.bin .lss (.tmp 11) (.con (.v (.int .i64 0))), (some 12), none, [1], none⟩,
  ⟨.mov (.tmp 12), (some 13), none, [2], none⟩,
  ⟨.addOff 1 (.tmp 3), (some 14), (some (13, false)), [3], none⟩,
  ⟨.load 1 false (.tmp 14), (some 15), (some (13, false)), [4, 3], none⟩,
  ⟨.bin .lss (.tmp 15) (.con (.v (.int .i64 0))), (some 16), (some (13, false)), [5, 3], none⟩,
  ⟨.pick (.tmp 13) (.con (.v (.bool true))) (.tmp 16), (some 17), none, [3, 6], none⟩,
  ⟨.mov (.tmp 17), (some 18), none, [7, 3], none⟩,
  ⟨.addOff 2 (.tmp 3), (some 19), (some (18, false)), [8], none⟩,
  ⟨.load 1 false (.tmp 19), (some 20), (some (18, false)), [9, 8], none⟩,
  ⟨.addOff 1 (.tmp 3), (some 21), (some (18, false)), [8], none⟩,
  ⟨.load 1 false (.tmp 21), (some 22), (some (18, false)), [11, 8], none⟩,
  ⟨.bin .lss (.tmp 20) (.tmp 22), (some 23), (some (18, false)), [10, 12, 8], none⟩,
  ⟨.pick (.tmp 18) (.con (.v (.bool true))) (.tmp 23), (some 24), none, [8, 13], none⟩,
  ⟨.mov (.tmp 24), (some 25), none, [14, 8], none⟩,
  ⟨.addOff 2 (.tmp 3), (some 26), (some (25, false)), [15], none⟩,
  ⟨.load 1 false (.tmp 26), (some 27), (some (25, false)), [16, 15], none⟩,
  ⟨.mov (.tmp 2), (some 28), (some (25, false)), [15], none⟩,
  ⟨.bin .geq (.tmp 27) (.tmp 28), (some 29), (some (25, false)), [17, 18, 15], none⟩,
  ⟨.pick (.tmp 25) (.con (.v (.bool true))) (.tmp 29), (some 30), none, [15, 19], none⟩,
  ⟨.mov (.tmp 30), (some 31), none, [20, 15], none⟩,
  ⟨.addOff 0 (.tmp 4), (some 32), (some (31, false)), [21], none⟩,
  ⟨.load 1 false (.tmp 32), (some 33), (some (31, false)), [22, 21], none⟩,
  ⟨.bin .lss (.tmp 33) (.con (.v (.int .i64 0))), (some 34), (some (31, false)), [23, 21], none⟩,
  ⟨.pick (.tmp 31) (.con (.v (.bool true))) (.tmp 34), (some 35), none, [21, 24], none⟩,
  ⟨.mov (.tmp 35), (some 36), none, [25, 21], none⟩,
  ⟨.addOff 1 (.tmp 4), (some 37), (some (36, false)), [26], none⟩,
  ⟨.load 1 false (.tmp 37), (some 38), (some (36, false)), [27, 26], none⟩,
  ⟨.bin .lss (.tmp 38) (.con (.v (.int .i64 0))), (some 39), (some (36, false)), [28, 26], none⟩,
  ⟨.pick (.tmp 36) (.con (.v (.bool true))) (.tmp 39), (some 40), none, [26, 29], none⟩,
  ⟨.mov (.tmp 40), (some 41), none, [30, 26], none⟩,
  ⟨.addOff 2 (.tmp 4), (some 42), (some (41, false)), [31], none⟩,
  ⟨.load 1 false (.tmp 42), (some 43), (some (41, false)), [32, 31], none⟩,
  ⟨.bin .lss (.tmp 43) (.con (.v (.int .i64 0))), (some 44), (some (41, false)), [33, 31], none⟩,
  ⟨.pick (.tmp 41) (.con (.v (.bool true))) (.tmp 44), (some 45), none, [31, 34], none⟩,
  ⟨.mov (.tmp 45), (some 46), none, [35, 31], none⟩,
  ⟨.addOff 2 (.tmp 4), (some 47), (some (46, false)), [36], none⟩,
  ⟨.load 1 false (.tmp 47), (some 48), (some (46, false)), [37, 36], none⟩,
  ⟨.bin .gtr (.tmp 48) (.con (.v (.int .i64 60))), (some 49), (some (46, false)), [38, 36], none⟩,
  ⟨.pick (.tmp 46) (.con (.v (.bool true))) (.tmp 49), (some 50), none, [36, 39], none⟩,
  ⟨.mov (.tmp 50), (some 51), none, [40, 36], none⟩,
  ⟨.addOff 0 (.tmp 4), (some 52), (some (51, false)), [41], none⟩,
  ⟨.load 1 false (.tmp 52), (some 53), (some (51, false)), [42, 41], none⟩,
  ⟨.mov (.tmp 2), (some 54), (some (51, false)), [41], none⟩,
  ⟨.bin .sub (.tmp 54) (.con (.v (.int .i64 1))), (some 55), (some (51, false)), [44, 41], none⟩,
  ⟨.bin .quo (.tmp 55) (.con (.v (.int .i64 2))), (some 56), (some (51, false)), [45, 41], none⟩,
  ⟨.bin .gtr (.tmp 53) (.tmp 56), (some 57), (some (51, false)), [43, 46, 41], none⟩,
  ⟨.pick (.tmp 51) (.con (.v (.bool true))) (.tmp 57), (some 58), none, [41, 47], none⟩,
  ⟨.mov (.tmp 58), (some 59), none, [48, 41], none⟩,
  ⟨.addOff 1 (.tmp 4), (some 60), (some (59, false)), [49], none⟩,
  ⟨.load 1 false (.tmp 60), (some 61), (some (59, false)), [50, 49], none⟩,
  ⟨.mov (.tmp 2), (some 62), (some (59, false)), [49], none⟩,
  ⟨.bin .sub (.tmp 62) (.con (.v (.int .i64 1))), (some 63), (some (59, false)), [52, 49], none⟩,
  ⟨.bin .quo (.tmp 63) (.con (.v (.int .i64 2))), (some 64), (some (59, false)), [53, 49], none⟩,
  ⟨.addOff 0 (.tmp 4), (some 65), (some (59, false)), [49], none⟩,
  ⟨.load 1 false (.tmp 65), (some 66), (some (59, false)), [55, 49], none⟩,
  ⟨.bin .sub (.tmp 64) (.tmp 66), (some 67), (some (59, false)), [54, 56, 49], none⟩,
  ⟨.bin .gtr (.tmp 61) (.tmp 67), (some 68), (some (59, false)), [51, 57, 49], none⟩,
  ⟨.pick (.tmp 59) (.con (.v (.bool true))) (.tmp 68), (some 69), none, [49, 58], none⟩]
def d6r2 : List RO := [
  ⟨.build [(.v (.int .i64 0)), (.v (.int .i64 0)), (.v (.int .i64 0))] [], (some 70), none, [], none⟩,
  ⟨.store 3 (.tmp 6) (.tmp 70), none, none, [0, 0], none⟩,
  ⟨.mov (.con (.v (.bool false))), (some 7), none, [1, 0, 1], none⟩]
def d6r3 : List RO := [
  ⟨.addOff 2 (.tmp 3), (some 71), none, [], none⟩,
  ⟨.load 1 false (.tmp 71), (some 72), none, [0], none⟩,
  ⟨.bin .quo (.tmp 72) (.con (.v (.int .i64 2))), (some 73), none, [1], none⟩,
  ⟨.mov (.tmp 73), (some 8), none, [2, 0, 1, 2], none⟩]
def d6r4 : List RO := [
  ⟨.addOff 2 (.tmp 3), (some 74), none, [], none⟩,
  ⟨.load 1 false (.tmp 74), (some 75), none, [0], none⟩,
  ⟨.bin .rem (.tmp 75) (.con (.v (.int .i64 2))), (some 76), none, [1], none⟩,
  ⟨.bin .eql (.tmp 76) (.con (.v (.int .i64 1))), (some 77), none, [2], none⟩]
def d6r5 : List RO := [
  ⟨.addOff 2 (.tmp 3), (some 78), none, [], none⟩,
  ⟨.load 1 false (.tmp 78), (some 79), none, [0], none⟩,
  ⟨.bin .sub (.tmp 79) (.con (.v (.int .i64 1))), (some 80), none, [1], none⟩,
  ⟨.bin .quo (.tmp 80) (.con (.v (.int .i64 2))), (some 81), none, [2], none⟩,
  ⟨.bin .add (.tmp 81) (.con (.v (.int .i64 2))), (some 82), none, [3], none⟩,
  ⟨.mov (.tmp 82), (some 8), none, [4, 0, 1, 2, 3, 4], none⟩]
def d6r6 : List RO := [
  ⟨.mov (.tmp 8), (some 83), none, [], none⟩,
  ⟨.addOff 0 (.tmp 4), (some 84), none, [], none⟩,
  ⟨.load 1 false (.tmp 84), (some 85), none, [1], none⟩,
  ⟨.bin .leq (.tmp 83) (.tmp 85), (some 86), none, [0, 2], none⟩]
def d6r7 : List RO := [
  ⟨.load 3 true (.tmp 3), (some 87), none, [], none⟩,
  ⟨.store 3 (.tmp 6) (.tmp 87), none, none, [0, 0], none⟩,
  ⟨.mov (.con (.v (.bool true))), (some 7), none, [1, 0, 1], none⟩]
def d6r8 : List RO := [
  ⟨.addOff 1 (.tmp 3), (some 88), none, [], none⟩,
  ⟨.load 1 false (.tmp 88), (some 89), none, [0], none⟩,
  ⟨.bin .quo (.tmp 89) (.con (.v (.int .i64 2))), (some 90), none, [1], none⟩,
  ⟨.addOff 0 (.tmp 4), (some 91), none, [], none⟩,
  ⟨.load 1 false (.tmp 91), (some 92), none, [3], none⟩,
  ⟨.addOff 1 (.tmp 4), (some 93), none, [], none⟩,
  ⟨.load 1 false (.tmp 93), (some 94), none, [5], none⟩,
  ⟨.bin .add (.tmp 92) (.tmp 94), (some 95), none, [4, 6], none⟩,
  ⟨.bin .geq (.tmp 90) (.tmp 95), (some 96), none, [2, 7], none⟩]
def d6r9 : List RO := [
  ⟨.addOff 2 (.tmp 4), (some 97), none, [], none⟩,
  ⟨.load 1 false (.tmp 97), (some 98), none, [0], none⟩,
  ⟨.addOff 1 (.tmp 4), (some 99), none, [], none⟩,
  ⟨.load 1 false (.tmp 99), (some 100), none, [2], none⟩,
  ⟨.bin .sub (.tmp 98) (.tmp 100), (some 101), none, [1, 3], none⟩,
  ⟨.bin .mul (.con (.v (.int .i64 2))) (.tmp 101), (some 102), none, [4], none⟩,
  ⟨.mov (.tmp 102), (some 9), none, [5, 0, 1, 2, 3, 4, 5], none⟩]
def d6r10 : List RO := [
  ⟨.addOff 0 (.tmp 3), (some 103), none, [], none⟩,
  ⟨.load 1 false (.tmp 103), (some 104), none, [0], none⟩,
  ⟨.addOff 1 (.tmp 3), (some 105), none, [], none⟩,
  ⟨.load 1 false (.tmp 105), (some 106), none, [2], none⟩,
  ⟨.mov (.tmp 9), (some 107), none, [], none⟩,
  ⟨.bin .add (.tmp 106) (.tmp 107), (some 108), none, [3, 4], none⟩,
  ⟨.addOff 2 (.tmp 3), (some 109), none, [], none⟩,
  ⟨.load 1 false (.tmp 109), (some 110), none, [6], none⟩,
  ⟨.mov (.tmp 9), (some 111), none, [], none⟩,
  ⟨.bin .add (.tmp 110) (.tmp 111), (some 112), none, [7, 8], none⟩,
  ⟨.build [(.v (.int .i64 0)), (.v (.int .i64 0)), (.v (.int .i64 0))] [(0, 1, (.tmp 104)), (1, 1, (.tmp 108)), (2, 1, (.tmp 112))], (some 113), none, [1, 5, 9], none⟩,
  ⟨.store 3 (.tmp 6) (.tmp 113), none, none, [10, 0, 1, 2, 3, 4, 5, 6, 7, 8, 9, 10], none⟩,
  ⟨.mov (.con (.v (.bool true))), (some 7), none, [11, 0, 1, 2, 3, 4, 5, 6, 7, 8, 9, 10, 11], none⟩]
def d6r11 : List RO := [
  ⟨.build [(.v (.int .i64 0)), (.v (.int .i64 0)), (.v (.int .i64 0))] [], (some 114), none, [], none⟩,
  ⟨.store 3 (.tmp 6) (.tmp 114), none, none, [0, 0], none⟩,
  ⟨.mov (.con (.v (.bool false))), (some 7), none, [1, 0, 1], none⟩]
def d6 : DC := (.seq (.region false d6r0)
  (.seq (.seq (.region false d6r1)
  (.cond (.tmp 69) (.seq (.region false d6r2)
  .ret)
  .skip))
  (.seq (.region false d6r3)
  (.seq (.seq (.region false d6r4)
  (.cond (.tmp 77) (.region false d6r5)
  .skip))
  (.seq (.seq (.region false d6r6)
  (.cond (.tmp 86) (.seq (.region false d6r7)
  .ret)
  .skip))
  (.seq (.seq (.region false d6r8)
  (.cond (.tmp 96) (.seq (.region false d6r9)
  (.seq (.region false d6r10)
  .ret))
  .skip))
  (.seq (.region false d6r11)
  .ret)))))))
def d6res : List DRes := [.cell 6 3 true, .slot 7]
theorem c6 : CodeOf Tryd.prog 6 115 d6 d6res := ⟨Tryd.f6, by kernel_rfl, by kernel_rfl, by kernel_rfl, by kernel_rfl⟩
-- emendate/increment.Update
def d7r0 : List RO := [
  ⟨.box (.tmp 0), (some 4), none, [], none⟩,
  ⟨.box (.tmp 1), (some 5), none, [], none⟩,
  ⟨.box (.tmp 2), (some 6), none, [], none⟩,
  ⟨.box (.tmp 3), (some 7), none, [], none⟩,
  ⟨.alloc [(.v (.int .i64 0)), (.v (.int .i64 0)), .nil0], (some 8), none, [], none⟩,
  ⟨.mov (.con (.v (.int .i64 0))), (some 9), none, [], none⟩,
  ⟨.mov (.con (.v (.int .i64 0))), (some 10), none, [5], none⟩]
def d7r1 : List RO := [
  ⟨.addOff 0 (.tmp 6), (some 23), none, [], none⟩,
  ⟨.load 1 false (.tmp 23), (some 24), none, [0], none⟩,
  ⟨.len (.tmp 24), (some 25), none, [1], none⟩,
  ⟨.mov (.tmp 25), (some 11), none, [2, 0, 1, 2], none⟩]
def d7r2 : List RO := [
  ⟨.addOff 0 (.tmp 7), (some 26), none, [], none⟩,
  ⟨.load 1 false (.tmp 26), (some 27), none, [0], none⟩,
  ⟨.bin .lss (.tmp 27) (.con (.v (.int .i64 0))), (some 28), none, [1], none⟩,
  ⟨.mov (.tmp 28), (some 29), none, [2], none⟩,
  ⟨.addOff 1 (.tmp 7), (some 30), (some (29, false)), [3], none⟩,
  ⟨.load 1 false (.tmp 30), (some 31), (some (29, false)), [4, 3], none⟩,
  ⟨.bin .lss (.tmp 31) (.con (.v (.int .i64 0))), (some 32), (some (29, false)), [5, 3], none⟩,
  ⟨.pick (.tmp 29) (.con (.v (.bool true))) (.tmp 32), (some 33), none, [3, 6], none⟩,
  ⟨.mov (.tmp 33), (some 34), none, [7, 3], none⟩,
  ⟨.addOff 2 (.tmp 7), (some 35), (some (34, false)), [8], none⟩,
  ⟨.load 1 false (.tmp 35), (some 36), (some (34, false)), [9, 8], none⟩,
  ⟨.bin .lss (.tmp 36) (.con (.v (.int .i64 0))), (some 37), (some (34, false)), [10, 8], none⟩,
  ⟨.pick (.tmp 34) (.con (.v (.bool true))) (.tmp 37), (some 38), none, [8, 11], none⟩,
  ⟨.mov (.tmp 38), (some 39), none, [12, 8], none⟩,
  ⟨.addOff 2 (.tmp 7), (some 40), (some (39, false)), [13], none⟩,
  ⟨.load 1 false (.tmp 40), (some 41), (some (39, false)), [14, 13], none⟩,
  ⟨.mov (.tmp 11), (some 42), (some (39, false)), [13], none⟩,
  ⟨.bin .gtr (.tmp 41) (.tmp 42), (some 43), (some (39, false)), [15, 16, 13], none⟩,
  ⟨.pick (.tmp 39) (.con (.v (.bool true))) (.tmp 43), (some 44), none, [13, 17], none⟩,
  ⟨.mov (.tmp 44), (some 45), none, [18, 13], none⟩,
  ⟨.addOff 0 (.tmp 7), (some 46), (some (45, false)), [19], none⟩,
  ⟨.load 1 false (.tmp 46), (some 47), (some (45, false)), [20, 19], none⟩,
  ⟨.mov (.tmp 11), (some 48), (some (45, false)), [19], none⟩,
  ⟨.addOff 2 (.tmp 7), (some 49), (some (45, false)), [19], none⟩,
  ⟨.load 1 false (.tmp 49), (some 50), (some (45, false)), [23, 19], none⟩,
  ⟨.bin .sub (.tmp 48) (.tmp 50), (some 51), (some (45, false)), [22, 24, 19], none⟩,
  ⟨.bin .gtr (.tmp 47) (.tmp 51), (some 52), (some (45, false)), [21, 25, 19], none⟩,
  ⟨.pick (.tmp 45) (.con (.v (.bool true))) (.tmp 52), (some 53), none, [19, 26], none⟩]
def d7r3 : List RO := [
  ⟨.build [(.v (.int .i64 0)), (.v (.int .i64 0)), .nil0] [], (some 54), none, [], none⟩,
  ⟨.store 3 (.tmp 8) (.tmp 54), none, none, [0, 0], none⟩,
  ⟨.mov (.con (.v (.int .i64 0))), (some 9), none, [1, 0, 1], none⟩,
  ⟨.mov (.con (.v (.int .i64 2))), (some 10), none, [2, 0, 1, 2], none⟩]
def d7r4 : List RO := [
  ⟨.addOff 0 (.tmp 5), (some 55), none, [], none⟩,
  ⟨.load 1 false (.tmp 55), (some 56), none, [0], none⟩,
  ⟨.addOff 1 (.tmp 4), (some 57), none, [], none⟩,
  ⟨.load 1 false (.tmp 57), (some 58), none, [2], none⟩,
  ⟨.bin .neq (.tmp 56) (.tmp 58), (some 59), none, [1, 3], none⟩,
  ⟨.mov (.tmp 59), (some 60), none, [4], none⟩,
  ⟨.addOff 1 (.tmp 5), (some 61), (some (60, false)), [5], none⟩,
  ⟨.load 1 false (.tmp 61), (some 62), (some (60, false)), [6, 5], none⟩,
  ⟨.bin .lss (.tmp 62) (.con (.v (.int .i64 1))), (some 63), (some (60, false)), [7, 5], none⟩,
  ⟨.pick (.tmp 60) (.con (.v (.bool true))) (.tmp 63), (some 64), none, [5, 8], none⟩,
  ⟨.mov (.tmp 64), (some 65), none, [9, 5], none⟩,
  ⟨.addOff 1 (.tmp 5), (some 66), (some (65, false)), [10], none⟩,
  ⟨.load 1 false (.tmp 66), (some 67), (some (65, false)), [11, 10], none⟩,
  ⟨.bin .rem (.tmp 67) (.con (.v (.int .i64 2))), (some 68), (some (65, false)), [12, 10], none⟩,
  ⟨.bin .eql (.tmp 68) (.con (.v (.int .i64 0))), (some 69), (some (65, false)), [13, 10], none⟩,
  ⟨.pick (.tmp 65) (.con (.v (.bool true))) (.tmp 69), (some 70), none, [10, 14], none⟩,
  ⟨.mov (.tmp 70), (some 71), none, [15, 10], none⟩,
  ⟨.addOff 1 (.tmp 5), (some 72), (some (71, false)), [16], none⟩,
  ⟨.load 1 false (.tmp 72), (some 73), (some (71, false)), [17, 16], none⟩,
  ⟨.bin .sub (.tmp 73) (.con (.v (.int .i64 1))), (some 74), (some (71, false)), [18, 16], none⟩,
  ⟨.bin .quo (.tmp 74) (.con (.v (.int .i64 2))), (some 75), (some (71, false)), [19, 16], none⟩,
  ⟨.mov (.tmp 11), (some 76), (some (71, false)), [16], none⟩,
  ⟨.addOff 2 (.tmp 7), (some 77), (some (71, false)), [16], none⟩,
  ⟨.load 1 false (.tmp 77), (some 78), (some (71, false)), [22, 16], none⟩,
  ⟨.bin .sub (.tmp 76) (.tmp 78), (some 79), (some (71, false)), [21, 23, 16], none⟩,
  ⟨.bin .sub (.tmp 75) (.tmp 79), (some 80), (some (71, false)), [20, 24, 16], none⟩,
  ⟨.addOff 1 (.tmp 7), (some 81), (some (71, false)), [16], none⟩,
  ⟨.load 1 false (.tmp 81), (some 82), (some (71, false)), [26, 16], none⟩,
  ⟨.bin .neq (.tmp 80) (.tmp 82), (some 83), (some (71, false)), [25, 27, 16], none⟩,
  ⟨.pick (.tmp 71) (.con (.v (.bool true))) (.tmp 83), (some 84), none, [16, 28], none⟩,
  ⟨.mov (.tmp 84), (some 85), none, [29, 16], none⟩,
  ⟨.addOff 2 (.tmp 5), (some 86), (some (85, false)), [30], none⟩,
  ⟨.load 1 false (.tmp 86), (some 87), (some (85, false)), [31, 30], none⟩,
  ⟨.len (.tmp 87), (some 88), (some (85, false)), [32, 30], none⟩,
  ⟨.addOff 1 (.tmp 4), (some 89), (some (85, false)), [30], none⟩,
  ⟨.load 1 false (.tmp 89), (some 90), (some (85, false)), [34, 30], none⟩,
  ⟨.addOff 1 (.tmp 5), (some 91), (some (85, false)), [30], none⟩,
  ⟨.load 1 false (.tmp 91), (some 92), (some (85, false)), [36, 30], none⟩,
  ⟨.call 9 [(.tmp 90), (.tmp 92)], (some 93), (some (85, false)), [35, 37, 30, 30], none⟩,
  ⟨.bin .neq (.tmp 88) (.tmp 93), (some 94), (some (85, false)), [33, 38, 30], none⟩,
  ⟨.pick (.tmp 85) (.con (.v (.bool true))) (.tmp 94), (some 95), none, [30, 39], none⟩]
def d7r5 : List RO := [
  ⟨.build [(.v (.int .i64 0)), (.v (.int .i64 0)), .nil0] [], (some 96), none, [], none⟩,
  ⟨.store 3 (.tmp 8) (.tmp 96), none, none, [0, 0], none⟩,
  ⟨.mov (.con (.v (.int .i64 0))), (some 9), none, [1, 0, 1], none⟩,
  ⟨.mov (.con (.v (.int .i64 13))), (some 10), none, [2, 0, 1, 2], none⟩]
def d7r6 : List RO := [
  ⟨.load 3 true (.tmp 6), (some 97), none, [], none⟩,
  ⟨.call 10 [(.tmp 97)], (some 98), none, [0], none⟩,
  ⟨.alloc [(.v (.int .i64 0)), .nil0, .nil0], (some 12), none, [], none⟩,
  ⟨.store 3 (.tmp 12) (.tmp 98), none, none, [2, 1, 1, 0, 1, 2], none⟩]
def d7r7 : List RO := [
  ⟨.addOff 1 (.tmp 4), (some 99), none, [], none⟩,
  ⟨.load 1 false (.tmp 99), (some 100), none, [0], none⟩,
  ⟨.addOff 0 (.tmp 12), (some 101), none, [], none⟩,
  ⟨.load 1 false (.tmp 101), (some 102), none, [2], none⟩,
  ⟨.build [(.v (.int .i64 0)), (.v (.int .i64 0)), .nil0] [(0, 1, (.tmp 100)), (1, 1, (.tmp 102))], (some 103), none, [1, 3], none⟩,
  ⟨.alloc [(.v (.int .i64 0)), (.v (.int .i64 0)), .nil0], (some 13), none, [], none⟩,
  ⟨.store 3 (.tmp 13) (.tmp 103), none, none, [5, 4, 0, 1, 2, 3, 4, 5], none⟩]
def d7r8 : List RO := [
  ⟨.addOff 1 (.tmp 4), (some 104), none, [], none⟩,
  ⟨.load 1 false (.tmp 104), (some 105), none, [0], none⟩,
  ⟨.addOff 0 (.tmp 12), (some 106), none, [], none⟩,
  ⟨.load 1 false (.tmp 106), (some 107), none, [2], none⟩,
  ⟨.call 9 [(.tmp 105), (.tmp 107)], (some 108), none, [1, 3], none⟩,
  ⟨.mkSlice 58 4 32 [(.int .i64 0), (.int .i64 0), (.int .i64 0), (.int .i64 0)] (.tmp 108), (some 109), none, [4, 4], none⟩,
  ⟨.alloc [.nil0], (some 14), none, [], none⟩,
  ⟨.store 1 (.tmp 14) (.tmp 109), none, none, [6, 5, 4, 0, 1, 2, 3, 4, 5, 6], none⟩]
def d7r9 : List RO := [
  ⟨.load 1 false (.tmp 14), (some 110), none, [], none⟩,
  ⟨.addOff 2 (.tmp 13), (some 111), none, [0], none⟩,
  ⟨.store 1 (.tmp 111) (.tmp 110), none, none, [1, 0, 0], none⟩]
def d7r10 : List RO := [
  ⟨.alloc [(.v (.int .i64 0))], (some 15), none, [], none⟩,
  ⟨.store 1 (.tmp 15) (.con (.v (.int .i64 0))), none, none, [0, 0], none⟩]
def d7r11 : List RO := [
  ⟨.addOff 0 (.tmp 12), (some 112), none, [], none⟩,
  ⟨.load 1 false (.tmp 112), (some 113), none, [0], none⟩,
  ⟨.call 11 [(.tmp 113)], (some 114), none, [1], none⟩]
def d7r12 : List RO := [
  ⟨.load 3 true (.tmp 13), (some 187), none, [], none⟩,
  ⟨.load 1 false (.tmp 15), (some 188), none, [], none⟩,
  ⟨.store 3 (.tmp 8) (.tmp 187), none, none, [0, 0], none⟩,
  ⟨.mov (.tmp 188), (some 9), none, [1, 2, 0, 1, 2], none⟩,
  ⟨.mov (.con (.v (.int .i64 0))), (some 10), none, [3, 0, 1, 2, 3], none⟩]
def d7 : DC := (.seq (.region false d7r0)
  (.seq (.region false d7r1)
  (.seq (.seq (.region false d7r2)
  (.cond (.tmp 53) (.seq (.region false d7r3)
  .ret)
  .skip))
  (.seq (.seq (.region true d7r4)
  (.cond (.tmp 95) (.seq (.region false d7r5)
  .ret)
  .skip))
  (.seq (.region false d7r6)
  (.seq (.region false d7r7)
  (.seq (.region false d7r8)
  (.seq (.region false d7r9)
  (.seq (.region false d7r10)
  (.seq (.seq (.region false d7r11)
  (.block 0 .other))
  (.seq (.regionT d7r12)
  .ret)))))))))))
def d7res : List DRes := [.cell 8 3 true, .slot 9, .slot 10]
theorem c7 : CodeOf Tryd.prog 7 189 d7 d7res := ⟨Tryd.f7, by kernel_rfl, by kernel_rfl, by kernel_rfl, by kernel_rfl⟩
-- emendate/increment.end
def d8r0 : List RO := [
  ⟨.mov (.con (.v (.int .i64 0))), (some 2), none, [], none⟩]
def d8r1 : List RO := [
  ⟨.mov (.tmp 0), (some 3), none, [], none⟩,
  ⟨.bin .rem (.tmp 3) (.con (.v (.int .i64 2))), (some 4), none, [0], none⟩,
  ⟨.bin .eql (.tmp 4) (.con (.v (.int .i64 0))), (some 5), none, [1], none⟩]
def d8r2 : List RO := [
  ⟨.mov (.tmp 0), (some 6), none, [], none⟩,
  ⟨.bin .quo (.tmp 6) (.con (.v (.int .i64 2))), (some 7), none, [0], none⟩,
  ⟨.mov (.tmp 7), (some 2), none, [1, 0, 1], none⟩]
def d8r3 : List RO := [
  ⟨.mov (.tmp 0), (some 8), none, [], none⟩,
  ⟨.bin .sub (.tmp 8) (.con (.v (.int .i64 1))), (some 9), none, [0], none⟩,
  ⟨.bin .quo (.tmp 9) (.con (.v (.int .i64 2))), (some 10), none, [1], none⟩,
  ⟨.bin .add (.tmp 10) (.con (.v (.int .i64 2))), (some 11), none, [2], none⟩,
  ⟨.mov (.tmp 11), (some 2), none, [3, 0, 1, 2, 3], none⟩]
def d8 : DC := (.seq (.region false d8r0)
  (.seq (.seq (.region false d8r1)
  (.cond (.tmp 5) (.seq (.region false d8r2)
  .ret)
  .skip))
  (.seq (.region false d8r3)
  .ret)))
def d8res : List DRes := [.slot 2]
theorem c8 : CodeOf Tryd.prog 8 12 d8 d8res := ⟨Tryd.f8, by kernel_rfl, by kernel_rfl, by kernel_rfl, by kernel_rfl⟩
-- emendate/increment.cells
def d9r0 : List RO := [
  ⟨.mov (.con (.v (.int .i64 0))), (some 4), none, [], none⟩]
def d9r1 : List RO := [
  ⟨.mov (.tmp 0), (some 5), none, [], none⟩,
  ⟨.mov (.tmp 1), (some 6), none, [], none⟩,
  ⟨.bin .mul (.tmp 5) (.tmp 6), (some 7), none, [0, 1], none⟩,
  ⟨.mov (.tmp 1), (some 8), none, [], none⟩,
  ⟨.bin .add (.tmp 8) (.con (.v (.int .i64 1))), (some 9), none, [3], none⟩,
  ⟨.bin .mul (.tmp 7) (.tmp 9), (some 10), none, [2, 4], none⟩,
  ⟨.bin .quo (.tmp 10) (.con (.v (.int .i64 2))), (some 11), none, [5], none⟩,
  ⟨.mov (.tmp 11), (some 4), none, [6, 0, 1, 2, 3, 4, 5, 6], none⟩]
def d9 : DC := (.seq (.region false d9r0)
  (.seq (.region false d9r1)
  .ret))
def d9res : List DRes := [.slot 4]
theorem c9 : CodeOf Tryd.prog 9 12 d9 d9res := ⟨Tryd.f9, by kernel_rfl, by kernel_rfl, by kernel_rfl, by kernel_rfl⟩
theorem follows : Tryd.prog.follows .mixedOrders = true := by kernel_rfl

def endI (t : Int) : Int := if t % 2 = 0 then t / 2 else (t - 1) / 2 + 2
def keepI (h f t cf co cn s : Int) : Option (Int × Int × Int) :=
  if h < 0 ∨ f < 0 ∨ t < f ∨ s ≤ t ∨ cf < 0 ∨ co < 0 ∨ cn < 0 ∨ 60 < cn ∨ (s - 1) / 2 < cf ∨ (s - 1) / 2 - cf < co then none
  else if endI t ≤ cf then some (h, f, t)
  else if cf + co ≤ f / 2 then some (h, f + 2 * (cn - co), t + 2 * (cn - co)) else none
def keepT' : Option (Int × Int × Int) → T
  | some (h, f, t) => .tup [.agg [.int .i64 h, .int .i64 f, .int .i64 t], .bool true]
  | none => .tup [.agg [.int .i64 0, .int .i64 0, .int .i64 0], .bool false]
def keepFn : List T → T
  | [.agg [.int _ h, .int _ f, .int _ t], .agg [.int _ cf, .int _ co, .int _ cn], .int _ s] => keepT' (keepI h f t cf co cn s)
  | _ => .bool false

theorem t8 {Γ : Env} (hΓ : EnvOk Tryd.prog Γ) (t : Int) (h0 : 0 ≤ t) (h1 : t ≤ 1000) : CallsOk Tryd.prog 8 [.int .i64 t] (.int .i64 (endI t)) := by
  refine c8.ok (by simp) (initSt_sat ?_)
  simp
  refine SatD.regSeq hΓ follows [0] ?_
  unfold d8r0
  simp
  refine SatD.seq (SatD.seq (SatD.reg hΓ follows [0, 5] ?_))
  unfold d8r1
  simp
  rw [tmod2 h0]
  refine SatD.cond (by simp; rfl) (fun h => ?_) (fun h => ?_)
  · refine SatD.regSeq hΓ follows [2] ?_
    unfold d8r2
    simp at h
    simp
    refine SatD.ret ?_
    simp [d8res, endI, h, tdiv2 h0]
    rw [wrap_id]; omega
  · refine SatD.skip ?_
    simp at h
    simp
    refine SatD.regSeq hΓ follows [2] ?_
    unfold d8r3
    simp
    refine SatD.ret ?_
    simp [d8res, endI, h]
    rw [wrap_id (x := t - 1) (by omega), tdiv2 (by omega), wrap_id (x := (t - 1) / 2) (by omega), wrap_id (by omega)]

def spec8 : DM.Spec := ⟨fun ts => ∃ t, ts = [.int .i64 t] ∧ 0 ≤ t ∧ t ≤ 1000, fun ts => match ts with | [.int _ t] => .int .i64 (endI t) | _ => .bool false, true⟩

set_option maxRecDepth 100000 in
set_option maxHeartbeats 1000000 in
theorem t5 {Γ : Env} (hΓ : EnvOk Tryd.prog Γ) (h8 : Γ 8 = some spec8)
   (hd f t cf co cn s : Int) (hs : s ≤ 1000) : CallsOk Tryd.prog 5 [.agg [.int .i64 hd, .int .i64 f, .int .i64 t], .agg [.int .i64 cf, .int .i64 co, .int .i64 cn], .int .i64 s] (keepT' (keepI hd f t cf co cn s)) := by
  refine c5.ok (by simp) (initSt_sat ?_)
  simp
  refine SatD.regSeq hΓ follows [0,1,2,3,4,5,6,7,8] ?_
  unfold d5r0
  simp
  refine SatD.seq (SatD.seq (SatD.reg hΓ follows [2,3,4,6,7,68] ?_))
  unfold d5r1
  simp
  repeat' (first | apply And.intro | intro _)
  all_goals try (
    refine SatD.cond (by simp; rfl) (fun _ => ?_) (fun h => by cases h)
    have hn : keepI hd f t cf co cn s = none := by
      unfold keepI; rw [if_pos ?_]
      first
        | omega
        | (have e1 : IntKind.i64.wrap (s - 1) = s - 1 := wrap_id (by omega)
           have e2 : (s - 1).tdiv 2 = (s - 1) / 2 := tdiv2 (by omega)
           have e3 : IntKind.i64.wrap ((s - 1) / 2) = (s - 1) / 2 := wrap_id (by omega)
           simp only [e1, e2, e3] at *; omega)
    refine SatD.regSeq hΓ follows [6, 7] ?_
    unfold d5r2
    simp
    refine SatD.ret ?_
    simp [d5res, hn, keepT']
    done)
  rename_i a0 a1 a2 a3 a4 a5 a6 a7 a8
  have e1 : IntKind.i64.wrap (s - 1) = s - 1 := wrap_id (by omega)
  have e2 : (s - 1).tdiv 2 = (s - 1) / 2 := tdiv2 (by omega)
  have e3 : IntKind.i64.wrap ((s - 1) / 2) = (s - 1) / 2 := wrap_id (by omega)
  simp only [e1, e2, e3] at a8 ⊢
  have e4 : IntKind.i64.wrap ((s - 1) / 2 - cf) = (s - 1) / 2 - cf := wrap_id (by omega)
  simp only [e4]
  refine SatD.cond (by simp; rfl) (fun h => ?_) (fun h => ?_)
  · simp at h
    have hn : keepI hd f t cf co cn s = none := by unfold keepI; rw [if_pos (by omega)]
    refine SatD.regSeq hΓ follows [6, 7] ?_
    unfold d5r2
    simp
    refine SatD.ret ?_
    simp [d5res, hn, keepT']
  simp at h
  have hk : keepI hd f t cf co cn s = if endI t ≤ cf then some (hd, f, t) else if cf + co ≤ f / 2 then some (hd, f + 2 * (cn - co), t + 2 * (cn - co)) else none := by
    unfold keepI; rw [if_neg (by omega)]
  refine SatD.skip ?_
  simp
  refine SatD.seq (SatD.seq (SatD.reg hΓ follows [3,4,6,7,75] ?_))
  unfold d5r3
  simp [h8, spec8]
  refine ⟨by omega, ?_⟩
  refine SatD.cond (by simp; rfl) (fun h1 => ?_) (fun h1 => ?_)
  · simp at h1
    refine SatD.regSeq hΓ follows [6, 7] ?_
    unfold d5r4
    simp
    refine SatD.ret ?_
    simp [d5res, hk, h1, keepT']
  simp at h1
  replace h1 : ¬ endI t ≤ cf := by omega
  refine SatD.skip ?_
  simp
  refine SatD.seq (SatD.seq (SatD.reg hΓ follows [3, 4, 6, 7, 85] ?_))
  unfold d5r5
  simp
  have e5 : f.tdiv 2 = f / 2 := tdiv2 a1
  have e6 : IntKind.i64.wrap (f / 2) = f / 2 := wrap_id (by omega)
  have e7 : IntKind.i64.wrap (cf + co) = cf + co := wrap_id (by omega)
  simp only [e5, e6, e7]
  refine SatD.cond (by simp; rfl) (fun h2 => ?_) (fun h2 => ?_)
  · simp at h2
    refine SatD.regSeq hΓ follows [3, 4, 6, 7, 8] ?_
    unfold d5r6
    simp
    have e8 : IntKind.i64.wrap (cn - co) = cn - co := wrap_id (by omega)
    have e9 : IntKind.i64.wrap (2 * (cn - co)) = 2 * (cn - co) := wrap_id (by omega)
    simp only [e8, e9]
    refine SatD.regSeq hΓ follows [6, 7] ?_
    unfold d5r7
    simp
    refine SatD.ret ?_
    have e10 : IntKind.i64.wrap (f + 2 * (cn - co)) = f + 2 * (cn - co) := wrap_id (by omega)
    have e11 : IntKind.i64.wrap (t + 2 * (cn - co)) = t + 2 * (cn - co) := wrap_id (by omega)
    simp [d5res, hk, h1, h2, keepT', e10, e11]
  · simp at h2
    replace h2 : ¬ cf + co ≤ f / 2 := by omega
    refine SatD.skip ?_
    simp
    refine SatD.regSeq hΓ follows [6, 7] ?_
    unfold d5r8
    simp
    refine SatD.ret ?_
    simp [d5res, hk, h1, h2, keepT']

set_option maxRecDepth 100000 in
set_option maxHeartbeats 1000000 in
theorem t6 {Γ : Env} (hΓ : EnvOk Tryd.prog Γ) 
   (hd f t cf co cn s : Int) (hs : s ≤ 1000) : CallsOk Tryd.prog 6 [.agg [.int .i64 hd, .int .i64 f, .int .i64 t], .agg [.int .i64 cf, .int .i64 co, .int .i64 cn], .int .i64 s] (keepT' (keepI hd f t cf co cn s)) := by
  refine c6.ok (by simp) (initSt_sat ?_)
  simp
  refine SatD.regSeq hΓ follows [0,1,2,3,4,5,6,7,8,9] ?_
  unfold d6r0
  simp
  refine SatD.seq (SatD.seq (SatD.reg hΓ follows [2,3,4,6,7,69] ?_))
  unfold d6r1
  simp
  repeat' (first | apply And.intro | intro _)
  all_goals try (
    refine SatD.cond (by simp; rfl) (fun _ => ?_) (fun h => by cases h)
    have hn : keepI hd f t cf co cn s = none := by
      unfold keepI; rw [if_pos ?_]
      first
        | omega
        | (have e1 : IntKind.i64.wrap (s - 1) = s - 1 := wrap_id (by omega)
           have e2 : (s - 1).tdiv 2 = (s - 1) / 2 := tdiv2 (by omega)
           have e3 : IntKind.i64.wrap ((s - 1) / 2) = (s - 1) / 2 := wrap_id (by omega)
           simp only [e1, e2, e3] at *; omega)
    refine SatD.regSeq hΓ follows [6, 7] ?_
    unfold d6r2
    simp
    refine SatD.ret ?_
    simp [d6res, hn, keepT']
    done)
  rename_i a0 a1 a2 a3 a4 a5 a6 a7 a8
  have e1 : IntKind.i64.wrap (s - 1) = s - 1 := wrap_id (by omega)
  have e2 : (s - 1).tdiv 2 = (s - 1) / 2 := tdiv2 (by omega)
  have e3 : IntKind.i64.wrap ((s - 1) / 2) = (s - 1) / 2 := wrap_id (by omega)
  simp only [e1, e2, e3] at a8 ⊢
  have e4 : IntKind.i64.wrap ((s - 1) / 2 - cf) = (s - 1) / 2 - cf := wrap_id (by omega)
  simp only [e4]
  refine SatD.cond (by simp; rfl) (fun h => ?_) (fun h => ?_)
  · simp at h
    have hn : keepI hd f t cf co cn s = none := by unfold keepI; rw [if_pos (by omega)]
    refine SatD.regSeq hΓ follows [6, 7] ?_
    unfold d6r2
    simp
    refine SatD.ret ?_
    simp [d6res, hn, keepT']
  simp at h
  have hk : keepI hd f t cf co cn s = if endI t ≤ cf then some (hd, f, t) else if cf + co ≤ f / 2 then some (hd, f + 2 * (cn - co), t + 2 * (cn - co)) else none := by
    unfold keepI; rw [if_neg (by omega)]
  refine SatD.skip ?_
  simp
  have f1 : t.tdiv 2 = t / 2 := tdiv2 (by omega)
  have f2 : IntKind.i64.wrap (t / 2) = t / 2 := wrap_id (by omega)
  have f3 : t.tmod 2 = t % 2 := tmod2 (by omega)
  refine SatD.regSeq hΓ follows [3,4,6,7,8] ?_
  unfold d6r3
  simp
  simp only [f1, f2]
  refine SatD.seq (SatD.seq (SatD.reg hΓ follows [3,4,6,7,8,77] ?_))
  unfold d6r4
  simp
  simp only [f3]
  have rest : ∀ (nxt : Nat), SatD Tryd.prog 115 (((DC.region false d6r6).seq (DC.cond (Opd.tmp 86) ((DC.region false d6r7).seq DC.ret) DC.skip)).seq
      (((DC.region false d6r8).seq (DC.cond (Opd.tmp 96) ((DC.region false d6r9).seq ((DC.region false d6r10).seq DC.ret)) DC.skip)).seq ((DC.region false d6r11).seq DC.ret)))
      (finQ d6res (keepT' (keepI hd f t cf co cn s)))
      ⟨DM.look [(3, DV.ptr 1004 0), (4, DV.ptr 1005 0), (6, DV.ptr 1007 0), (7, DV.v (T.bool false)), (8, .v (.int .i64 (endI t)))],
        obs [(1007, Ob.box [DV.v (T.int IntKind.i64 0), DV.v (T.int IntKind.i64 0), DV.v (T.int IntKind.i64 0)]), (1005, Ob.box [DV.v (T.int IntKind.i64 cf), DV.v (T.int IntKind.i64 co), DV.v (T.int IntKind.i64 cn)]), (1004, Ob.box [DV.v (T.int IntKind.i64 hd), DV.v (T.int IntKind.i64 f), DV.v (T.int IntKind.i64 t)])], nxt⟩ := by
    intro nxt
    refine SatD.seq (SatD.seq (SatD.reg hΓ follows [3,4,6,7,86] ?_))
    unfold d6r6
    simp
    refine SatD.cond (by simp; rfl) (fun h1 => ?_) (fun h1 => ?_)
    · simp at h1
      refine SatD.regSeq hΓ follows [6, 7] ?_
      unfold d6r7
      simp
      refine SatD.ret ?_
      simp [d6res, hk, h1, keepT']
    simp at h1
    replace h1 : ¬ endI t ≤ cf := by omega
    refine SatD.skip ?_
    simp
    refine SatD.seq (SatD.seq (SatD.reg hΓ follows [3, 4, 6, 7, 96] ?_))
    unfold d6r8
    simp
    have e5 : f.tdiv 2 = f / 2 := tdiv2 a1
    have e6 : IntKind.i64.wrap (f / 2) = f / 2 := wrap_id (by omega)
    have e7 : IntKind.i64.wrap (cf + co) = cf + co := wrap_id (by omega)
    simp only [e5, e6, e7]
    refine SatD.cond (by simp; rfl) (fun h2 => ?_) (fun h2 => ?_)
    · simp at h2
      refine SatD.regSeq hΓ follows [3, 4, 6, 7, 9] ?_
      unfold d6r9
      simp
      have e8 : IntKind.i64.wrap (cn - co) = cn - co := wrap_id (by omega)
      have e9 : IntKind.i64.wrap (2 * (cn - co)) = 2 * (cn - co) := wrap_id (by omega)
      simp only [e8, e9]
      refine SatD.regSeq hΓ follows [6, 7] ?_
      unfold d6r10
      simp
      refine SatD.ret ?_
      have e10 : IntKind.i64.wrap (f + 2 * (cn - co)) = f + 2 * (cn - co) := wrap_id (by omega)
      have e11 : IntKind.i64.wrap (t + 2 * (cn - co)) = t + 2 * (cn - co) := wrap_id (by omega)
      simp [d6res, hk, h1, h2, keepT', e10, e11]
    · simp at h2
      replace h2 : ¬ cf + co ≤ f / 2 := by omega
      refine SatD.skip ?_
      simp
      refine SatD.regSeq hΓ follows [6, 7] ?_
      unfold d6r11
      simp
      refine SatD.ret ?_
      simp [d6res, hk, h1, h2, keepT']
  refine SatD.cond (by simp; rfl) (fun h0 => ?_) (fun h0 => ?_)
  · simp at h0
    refine SatD.reg hΓ follows [3, 4, 6, 7, 8] ?_
    unfold d6r5
    simp
    have g1 : IntKind.i64.wrap (t - 1) = t - 1 := wrap_id (by omega)
    have g2 : (t - 1).tdiv 2 = (t - 1) / 2 := tdiv2 (by omega)
    have g3 : IntKind.i64.wrap ((t - 1) / 2) = (t - 1) / 2 := wrap_id (by omega)
    have g4 : IntKind.i64.wrap ((t - 1) / 2 + 2) = endI t := by rw [wrap_id (by omega)]; unfold endI; rw [if_neg (by omega)]
    simp only [g1, g2, g3, g4]
    exact rest _
  · simp at h0
    refine SatD.skip ?_
    have g : t / 2 = endI t := by unfold endI; rw [if_pos (by omega)]
    rw [g]
    refine SatD.le (Le.slots (tm := DM.look [(3, DV.ptr 1004 0), (4, DV.ptr 1005 0), (6, DV.ptr 1007 0), (7, DV.v (T.bool false)), (8, .v (.int .i64 (endI t)))]) fun k => ?_) (rest _)
    simp only [look_cons, look_nil]
    repeat' split
    all_goals first | exact .inl rfl | exact .inr rfl
end Go.Proofs
