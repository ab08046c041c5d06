import Derived.Test.YtlimlhidndflhaaDoorJ0c
import Derived.KernelRfl
import Derived.Test.YtlimlhidndflhaaDoorMe
set_option maxRecDepth 100000

namespace Go.Proofs
open Go.DM

-- (*emendate/editscript.state).next
def d984r0 : List RO := [
  ⟨.alloc [(.v (.int .i64 0)), .nil0, (.v (.int .i64 0))], (some 2), none, [], none⟩,
  ⟨.mov (.con (.v (.bool false))), (some 3), none, [], none⟩]
def d984r1 : List RO := [
  ⟨.mov (.tmp 0), (some 4), none, [], none⟩,
  ⟨.nilCheck (.tmp 4), (some 5), none, [0], none⟩,
  ⟨.addOff 3 (.tmp 5), (some 6), none, [1], none⟩,
  ⟨.load 1 false (.tmp 6), (some 7), none, [2], none⟩,
  ⟨.mov (.tmp 0), (some 8), none, [], none⟩,
  ⟨.nilCheck (.tmp 8), (some 9), none, [4], none⟩,
  ⟨.addOff 0 (.tmp 9), (some 10), none, [5], none⟩,
  ⟨.addOff 0 (.tmp 10), (some 11), none, [6], none⟩,
  ⟨.load 1 false (.tmp 11), (some 12), none, [7], none⟩,
  ⟨.len (.tmp 12), (some 13), none, [8], none⟩,
  ⟨.bin .geq (.tmp 7) (.tmp 13), (some 14), none, [3, 9], none⟩]
def d984r2 : List RO := [
  ⟨.build [(.v (.int .i64 0)), .nil0, (.v (.int .i64 0))] [], (some 15), none, [], none⟩,
  ⟨.store 3 (.tmp 2) (.tmp 15), none, none, [0, 0], none⟩,
  ⟨.mov (.con (.v (.bool false))), (some 3), none, [1, 0, 1], none⟩]
def d984r3 : List RO := [
  ⟨.mov (.tmp 0), (some 16), none, [], none⟩,
  ⟨.nilCheck (.tmp 16), (some 17), none, [0], none⟩,
  ⟨.addOff 0 (.tmp 17), (some 18), none, [1], none⟩,
  ⟨.addOff 0 (.tmp 18), (some 19), none, [2], none⟩,
  ⟨.load 1 false (.tmp 19), (some 20), none, [3], none⟩,
  ⟨.mov (.tmp 0), (some 21), none, [], none⟩,
  ⟨.nilCheck (.tmp 21), (some 22), none, [5], none⟩,
  ⟨.addOff 3 (.tmp 22), (some 23), none, [6], none⟩,
  ⟨.load 1 false (.tmp 23), (some 24), none, [7], none⟩,
  ⟨.idxAddr 3 (.tmp 20) (.tmp 24), (some 25), none, [4, 8], none⟩,
  ⟨.load 3 true (.tmp 25), (some 26), none, [9], none⟩,
  ⟨.store 3 (.tmp 2) (.tmp 26), none, none, [10, 0, 1, 2, 3, 4, 5, 6, 7, 8, 9, 10], none⟩,
  ⟨.mov (.con (.v (.bool true))), (some 3), none, [11, 0, 1, 2, 3, 4, 5, 6, 7, 8, 9, 10, 11], none⟩]
def d984 : DC := (.seq (.region false d984r0)
  (.seq (.seq (.region true d984r1)
  (.cond (.tmp 14) (.seq (.region false d984r2)
  .ret)
  .skip))
  (.seq (.region true d984r3)
  .ret)))
def d984res : List DRes := [.cell 2 3 true, .slot 3]
theorem c984 [Laid] : CodeOf Tryd.prog 84 27 d984 d984res := ⟨Tryd.f84, by kernel_rfl, by kernel_rfl, by kernel_rfl, by kernel_rfl, by kernel_rfl⟩
-- emendate/editscript.add
def d57r0 : List RO := [
  ⟨.mov (.con (.v (.int .i64 0))), (some 4), none, [], none⟩]
def d57r1 : List RO := [
  ⟨.mov (.tmp 0), (some 5), none, [], none⟩,
  ⟨.mov (.tmp 1), (some 6), none, [], none⟩,
  ⟨.bin .add (.tmp 5) (.tmp 6), (some 7), none, [0, 1], none⟩,
  ⟨.minmax false (.tmp 7) (.con (.v (.int .i64 1099511627776))), (some 8), none, [2], none⟩,
  ⟨.mov (.tmp 8), (some 4), none, [3, 0, 1, 2, 3], none⟩]
def d57 : DC := (.seq (.region false d57r0)
  (.seq (.region false d57r1)
  .ret))
def d57res : List DRes := [.slot 4]
theorem c57 [Laid] : CodeOf Tryd.prog 85 9 d57 d57res := ⟨Tryd.f85, by kernel_rfl, by kernel_rfl, by kernel_rfl, by kernel_rfl, by kernel_rfl⟩
-- emendate/editscript.swappable
def d74r0 : List RO := [
  ⟨.box (.tmp 0), (some 2), none, [], none⟩,
  ⟨.mov (.con (.v (.bool false))), (some 4), none, [], none⟩]
def d74r1 : List RO := [
  ⟨.addOff 2 (.tmp 2), (some 5), none, [], none⟩,
  ⟨.load 1 false (.tmp 5), (some 6), none, [0], none⟩,
  ⟨.bin .gtr (.tmp 6) (.con (.v (.int .i64 0))), (some 7), none, [1], none⟩,
  ⟨.mov (.tmp 7), (some 8), none, [2], none⟩,
  ⟨.mov (.tmp 1), (some 9), (some (8, true)), [3], none⟩,
  ⟨.bin .add (.tmp 9) (.con (.v (.int .i64 1))), (some 10), (some (8, true)), [4, 3], none⟩,
  ⟨.addOff 0 (.tmp 2), (some 11), (some (8, true)), [3], none⟩,
  ⟨.load 1 false (.tmp 11), (some 12), (some (8, true)), [6, 3], none⟩,
  ⟨.len (.tmp 12), (some 13), (some (8, true)), [7, 3], none⟩,
  ⟨.bin .lss (.tmp 10) (.tmp 13), (some 14), (some (8, true)), [5, 8, 3], none⟩,
  ⟨.pick (.tmp 8) (.tmp 14) (.con (.v (.bool false))), (some 15), none, [3, 9], none⟩,
  ⟨.mov (.tmp 15), (some 16), none, [10, 3], none⟩,
  ⟨.addOff 0 (.tmp 2), (some 17), (some (16, true)), [11], none⟩,
  ⟨.load 1 false (.tmp 17), (some 18), (some (16, true)), [12, 11], none⟩,
  ⟨.mov (.tmp 1), (some 19), (some (16, true)), [11], none⟩,
  ⟨.idxAddr 3 (.tmp 18) (.tmp 19), (some 20), (some (16, true)), [13, 14, 11], none⟩,
  ⟨.addOff 0 (.tmp 20), (some 21), (some (16, true)), [15, 11], none⟩,
  ⟨.load 1 false (.tmp 21), (some 22), (some (16, true)), [16, 11], none⟩,
  ⟨.bin .geq (.tmp 22) (.con (.v (.int .i64 0))), (some 23), (some (16, true)), [17, 11], none⟩,
  ⟨.pick (.tmp 16) (.tmp 23) (.con (.v (.bool false))), (some 24), none, [11, 18], none⟩,
  ⟨.mov (.tmp 24), (some 25), none, [19, 11], none⟩,
  ⟨.addOff 0 (.tmp 2), (some 26), (some (25, true)), [20], none⟩,
  ⟨.load 1 false (.tmp 26), (some 27), (some (25, true)), [21, 20], none⟩,
  ⟨.mov (.tmp 1), (some 28), (some (25, true)), [20], none⟩,
  ⟨.bin .add (.tmp 28) (.con (.v (.int .i64 1))), (some 29), (some (25, true)), [23, 20], none⟩,
  ⟨.idxAddr 3 (.tmp 27) (.tmp 29), (some 30), (some (25, true)), [22, 24, 20], none⟩,
  ⟨.addOff 0 (.tmp 30), (some 31), (some (25, true)), [25, 20], none⟩,
  ⟨.load 1 false (.tmp 31), (some 32), (some (25, true)), [26, 20], none⟩,
  ⟨.bin .geq (.tmp 32) (.con (.v (.int .i64 0))), (some 33), (some (25, true)), [27, 20], none⟩,
  ⟨.pick (.tmp 25) (.tmp 33) (.con (.v (.bool false))), (some 34), none, [20, 28], none⟩,
  ⟨.mov (.tmp 34), (some 4), none, [29, 20, 0, 1, 2, 3, 4, 5, 6, 7, 8, 9, 10, 11, 12, 13, 14, 15, 16, 17, 18, 19, 20, 21, 22, 23, 24, 25, 26, 27, 28, 29], none⟩]
def d74 : DC := (.seq (.region false d74r0)
  (.seq (.region false d74r1)
  .ret))
def d74res : List DRes := [.slot 4]
theorem c74 [Laid] : CodeOf Tryd.prog 86 35 d74 d74res := ⟨Tryd.f86, by kernel_rfl, by kernel_rfl, by kernel_rfl, by kernel_rfl, by kernel_rfl⟩
-- (*emendate/editscript.state).emit
def d978r0 : List RO := [
  ⟨.mov (.tmp 0), (some 5), none, [], none⟩,
  ⟨.nilCheck (.tmp 5), (some 6), none, [0], none⟩,
  ⟨.addOff 4 (.tmp 6), (some 7), none, [1], none⟩,
  ⟨.load 1 false (.tmp 7), (some 8), none, [2], none⟩,
  ⟨.mov (.tmp 8), (some 4), none, [3, 0, 1, 2, 3], none⟩]
def d978r1 : List RO := [
  ⟨.mov (.tmp 0), (some 9), none, [], none⟩,
  ⟨.mov (.tmp 4), (some 10), none, [], none⟩,
  ⟨.mov (.tmp 1), (some 11), none, [], none⟩,
  ⟨.bslice 1 1 [(.v (.int .i64 0))] [(0, 1, (.tmp 11))], (some 12), none, [2], none⟩,
  ⟨.append 3 1 8 (.tmp 10) (.tmp 12), (some 13), none, [1, 3], none⟩,
  ⟨.nilCheck (.tmp 9), (some 14), none, [0, 0, 1, 2, 3, 4], none⟩,
  ⟨.addOff 4 (.tmp 14), (some 15), none, [5, 0, 1, 2, 3, 4], none⟩,
  ⟨.store 1 (.tmp 15) (.tmp 13), none, none, [6, 4, 4, 0, 1, 2, 3, 4], none⟩]
def d978 : DC := (.seq (.region false d978r0)
  (.region false d978r1))
def d978res : List DRes := []
theorem c978 [Laid] : CodeOf Tryd.prog 78 16 d978 d978res := ⟨Tryd.f78, by kernel_rfl, by kernel_rfl, by kernel_rfl, by kernel_rfl, by kernel_rfl⟩
-- (*emendate/editscript.state).read
def d980r0 : List RO := [
  ⟨.mov (.con (.v (.bool false))), (some 4), none, [], none⟩]
def d980r1 : List RO := [
  ⟨.mov (.tmp 0), (some 8), none, [], none⟩,
  ⟨.call 84 [(.tmp 8)], (some 9), none, [0], none⟩,
  ⟨.mov (.tmp 9), (some 7), none, [1], none⟩,
  ⟨.extract 0 (.tmp 7), (some 10), none, [2], none⟩,
  ⟨.extract 1 (.tmp 7), (some 11), none, [2], none⟩,
  ⟨.alloc [(.v (.int .i64 0)), .nil0, (.v (.int .i64 0))], (some 5), none, [], none⟩,
  ⟨.store 3 (.tmp 5) (.tmp 10), none, none, [5, 3, 1, 0, 1, 2, 3, 5], none⟩,
  ⟨.mov (.tmp 11), (some 6), none, [4, 6, 0, 1, 2, 3, 4, 5, 6], none⟩]
def d980r1S : List RO := [
  ⟨.mov (.tmp 0), (some 8), none, [], none⟩,
  ⟨.callS 84 [(.tmp 8)], (some 9), none, [0], none⟩,
  ⟨.mov (.tmp 9), (some 7), none, [1], none⟩,
  ⟨.extract 0 (.tmp 7), (some 10), none, [2], none⟩,
  ⟨.extract 1 (.tmp 7), (some 11), none, [2], none⟩,
  ⟨.alloc [(.v (.int .i64 0)), .nil0, (.v (.int .i64 0))], (some 5), none, [], none⟩,
  ⟨.store 3 (.tmp 5) (.tmp 10), none, none, [5, 3, 1, 0, 1, 2, 3, 5], none⟩,
  ⟨.mov (.tmp 11), (some 6), none, [4, 6, 0, 1, 2, 3, 4, 5, 6], none⟩]
def d980r2 : List RO := [
  ⟨.mov (.tmp 6), (some 12), none, [], none⟩,
  ⟨.un .not (.tmp 12), (some 13), none, [0], none⟩,
  ⟨.mov (.tmp 13), (some 14), none, [1], none⟩,
  ⟨.mov (.tmp 1), (some 15), (some (14, false)), [2], none⟩,
  ⟨.bin .lss (.tmp 15) (.con (.v (.int .i64 0))), (some 16), (some (14, false)), [3, 2], none⟩,
  ⟨.pick (.tmp 14) (.con (.v (.bool true))) (.tmp 16), (some 17), none, [2, 4], none⟩,
  ⟨.mov (.tmp 17), (some 18), none, [5, 2], none⟩,
  ⟨.mov (.tmp 1), (some 19), (some (18, false)), [6], none⟩,
  ⟨.addOff 1 (.tmp 5), (some 20), (some (18, false)), [6], none⟩,
  ⟨.load 1 false (.tmp 20), (some 21), (some (18, false)), [8, 6], none⟩,
  ⟨.len (.tmp 21), (some 22), (some (18, false)), [9, 6], none⟩,
  ⟨.bin .geq (.tmp 19) (.tmp 22), (some 23), (some (18, false)), [7, 10, 6], none⟩,
  ⟨.pick (.tmp 18) (.con (.v (.bool true))) (.tmp 23), (some 24), none, [6, 11], none⟩,
  ⟨.mov (.tmp 24), (some 25), none, [12, 6], none⟩,
  ⟨.addOff 1 (.tmp 5), (some 26), (some (25, false)), [13], none⟩,
  ⟨.load 1 false (.tmp 26), (some 27), (some (25, false)), [14, 13], none⟩,
  ⟨.mov (.tmp 1), (some 28), (some (25, false)), [13], none⟩,
  ⟨.idxAddr 1 (.tmp 27) (.tmp 28), (some 29), (some (25, false)), [15, 16, 13], none⟩,
  ⟨.load 1 false (.tmp 29), (some 30), (some (25, false)), [17, 13], none⟩,
  ⟨.bin .lss (.tmp 30) (.con (.v (.int .i64 0))), (some 31), (some (25, false)), [18, 13], none⟩,
  ⟨.pick (.tmp 25) (.con (.v (.bool true))) (.tmp 31), (some 32), none, [13, 19], none⟩]
def d980r3 : List RO := [
  ⟨.mov (.con (.v (.bool false))), (some 4), none, [], none⟩]
def d980r4 : List RO := [
  ⟨.mov (.tmp 0), (some 33), none, [], none⟩,
  ⟨.nilCheck (.tmp 33), (some 34), none, [0], none⟩,
  ⟨.addOff 3 (.tmp 34), (some 35), none, [1], none⟩,
  ⟨.load 1 false (.tmp 35), (some 36), none, [2], none⟩,
  ⟨.bin .add (.tmp 36) (.con (.v (.int .i64 1))), (some 37), none, [3], none⟩,
  ⟨.nilCheck (.tmp 33), (some 38), none, [0, 0, 1, 2, 3, 4], none⟩,
  ⟨.addOff 3 (.tmp 38), (some 39), none, [5, 0, 1, 2, 3, 4], none⟩,
  ⟨.store 1 (.tmp 39) (.tmp 37), none, none, [6, 4, 0, 1, 2, 3, 4], none⟩]
def d980r5 : List RO := [
  ⟨.mov (.tmp 0), (some 40), none, [], none⟩,
  ⟨.mov (.tmp 1), (some 41), none, [], none⟩,
  ⟨.call 78 [(.tmp 40), (.tmp 41)], (some 42), none, [0, 1], none⟩]
def d980r5S : List RO := [
  ⟨.mov (.tmp 0), (some 40), none, [], none⟩,
  ⟨.mov (.tmp 1), (some 41), none, [], none⟩,
  ⟨.callS 78 [(.tmp 40), (.tmp 41)], (some 42), none, [0, 1], none⟩]
def d980r6 : List RO := [
  ⟨.mov (.tmp 0), (some 43), none, [], none⟩,
  ⟨.mov (.tmp 0), (some 44), none, [], none⟩,
  ⟨.nilCheck (.tmp 44), (some 45), none, [1], none⟩,
  ⟨.addOff 5 (.tmp 45), (some 46), none, [2], none⟩,
  ⟨.load 1 false (.tmp 46), (some 47), none, [3], none⟩,
  ⟨.addOff 1 (.tmp 5), (some 48), none, [], none⟩,
  ⟨.load 1 false (.tmp 48), (some 49), none, [5], none⟩,
  ⟨.mov (.tmp 1), (some 50), none, [], none⟩,
  ⟨.idxAddr 1 (.tmp 49) (.tmp 50), (some 51), none, [6, 7], none⟩,
  ⟨.load 1 false (.tmp 51), (some 52), none, [8], none⟩,
  ⟨.call 85 [(.tmp 47), (.tmp 52)], (some 53), none, [4, 9], none⟩,
  ⟨.nilCheck (.tmp 43), (some 54), none, [0, 0, 1, 2, 3, 4, 5, 6, 7, 8, 9, 10], none⟩,
  ⟨.addOff 5 (.tmp 54), (some 55), none, [11, 0, 1, 2, 3, 4, 5, 6, 7, 8, 9, 10], none⟩,
  ⟨.store 1 (.tmp 55) (.tmp 53), none, none, [12, 10, 10, 0, 1, 2, 3, 4, 5, 6, 7, 8, 9, 10], none⟩]
def d980r7 : List RO := [
  ⟨.mov (.con (.v (.bool true))), (some 4), none, [], none⟩]
def d980 : DC := (.seq (.region false d980r0)
  (.seq (.region false d980r1)
  (.seq (.seq (.region false d980r2)
  (.cond (.tmp 32) (.seq (.region false d980r3)
  .ret)
  .skip))
  (.seq (.region false d980r4)
  (.seq (.region false d980r5)
  (.seq (.region true d980r6)
  (.seq (.region false d980r7)
  .ret)))))))
def d980res : List DRes := [.slot 4]
theorem c980 [Laid] : CodeOf Tryd.prog 80 56 d980 d980res := ⟨Tryd.f80, by kernel_rfl, by kernel_rfl, by kernel_rfl, by kernel_rfl, by kernel_rfl⟩
-- (*emendate/editscript.state).remove
def d981r0 : List RO := [
  ⟨.mov (.con (.v (.bool false))), (some 4), none, [], none⟩]
def d981r1 : List RO := [
  ⟨.mov (.tmp 0), (some 8), none, [], none⟩,
  ⟨.call 84 [(.tmp 8)], (some 9), none, [0], none⟩,
  ⟨.mov (.tmp 9), (some 7), none, [1], none⟩,
  ⟨.extract 0 (.tmp 7), (some 10), none, [2], none⟩,
  ⟨.extract 1 (.tmp 7), (some 11), none, [2], none⟩,
  ⟨.alloc [(.v (.int .i64 0)), .nil0, (.v (.int .i64 0))], (some 5), none, [], none⟩,
  ⟨.store 3 (.tmp 5) (.tmp 10), none, none, [5, 3, 1, 0, 1, 2, 3, 5], none⟩,
  ⟨.mov (.tmp 11), (some 6), none, [4, 6, 0, 1, 2, 3, 4, 5, 6], none⟩]
def d981r1S : List RO := [
  ⟨.mov (.tmp 0), (some 8), none, [], none⟩,
  ⟨.callS 84 [(.tmp 8)], (some 9), none, [0], none⟩,
  ⟨.mov (.tmp 9), (some 7), none, [1], none⟩,
  ⟨.extract 0 (.tmp 7), (some 10), none, [2], none⟩,
  ⟨.extract 1 (.tmp 7), (some 11), none, [2], none⟩,
  ⟨.alloc [(.v (.int .i64 0)), .nil0, (.v (.int .i64 0))], (some 5), none, [], none⟩,
  ⟨.store 3 (.tmp 5) (.tmp 10), none, none, [5, 3, 1, 0, 1, 2, 3, 5], none⟩,
  ⟨.mov (.tmp 11), (some 6), none, [4, 6, 0, 1, 2, 3, 4, 5, 6], none⟩]
def d981r2 : List RO := [
  ⟨.mov (.tmp 6), (some 12), none, [], none⟩,
  ⟨.un .not (.tmp 12), (some 13), none, [0], none⟩,
  ⟨.mov (.tmp 13), (some 14), none, [1], none⟩,
  ⟨.mov (.tmp 1), (some 15), (some (14, false)), [2], none⟩,
  ⟨.bin .neq (.tmp 15) (.con (.v (.int .i64 0))), (some 16), (some (14, false)), [3, 2], none⟩,
  ⟨.pick (.tmp 14) (.con (.v (.bool true))) (.tmp 16), (some 17), none, [2, 4], none⟩,
  ⟨.mov (.tmp 17), (some 18), none, [5, 2], none⟩,
  ⟨.addOff 2 (.tmp 5), (some 19), (some (18, false)), [6], none⟩,
  ⟨.load 1 false (.tmp 19), (some 20), (some (18, false)), [7, 6], none⟩,
  ⟨.bin .geq (.tmp 20) (.con (.v (.int .i64 1099511627776))), (some 21), (some (18, false)), [8, 6], none⟩,
  ⟨.pick (.tmp 18) (.con (.v (.bool true))) (.tmp 21), (some 22), none, [6, 9], none⟩]
def d981r3 : List RO := [
  ⟨.mov (.con (.v (.bool false))), (some 4), none, [], none⟩]
def d981r4 : List RO := [
  ⟨.mov (.tmp 0), (some 23), none, [], none⟩,
  ⟨.nilCheck (.tmp 23), (some 24), none, [0], none⟩,
  ⟨.addOff 3 (.tmp 24), (some 25), none, [1], none⟩,
  ⟨.load 1 false (.tmp 25), (some 26), none, [2], none⟩,
  ⟨.bin .add (.tmp 26) (.con (.v (.int .i64 1))), (some 27), none, [3], none⟩,
  ⟨.nilCheck (.tmp 23), (some 28), none, [0, 0, 1, 2, 3, 4], none⟩,
  ⟨.addOff 3 (.tmp 28), (some 29), none, [5, 0, 1, 2, 3, 4], none⟩,
  ⟨.store 1 (.tmp 29) (.tmp 27), none, none, [6, 4, 0, 1, 2, 3, 4], none⟩]
def d981r5 : List RO := [
  ⟨.mov (.tmp 0), (some 30), none, [], none⟩,
  ⟨.mov (.tmp 0), (some 31), none, [], none⟩,
  ⟨.nilCheck (.tmp 31), (some 32), none, [1], none⟩,
  ⟨.addOff 5 (.tmp 32), (some 33), none, [2], none⟩,
  ⟨.load 1 false (.tmp 33), (some 34), none, [3], none⟩,
  ⟨.addOff 2 (.tmp 5), (some 35), none, [], none⟩,
  ⟨.load 1 false (.tmp 35), (some 36), none, [5], none⟩,
  ⟨.call 85 [(.tmp 34), (.tmp 36)], (some 37), none, [4, 6], none⟩,
  ⟨.nilCheck (.tmp 30), (some 38), none, [0, 0, 1, 2, 3, 4, 5, 6, 7], none⟩,
  ⟨.addOff 5 (.tmp 38), (some 39), none, [8, 0, 1, 2, 3, 4, 5, 6, 7], none⟩,
  ⟨.store 1 (.tmp 39) (.tmp 37), none, none, [9, 7, 7, 0, 1, 2, 3, 4, 5, 6, 7], none⟩]
def d981r6 : List RO := [
  ⟨.mov (.con (.v (.bool true))), (some 4), none, [], none⟩]
def d981 : DC := (.seq (.region false d981r0)
  (.seq (.region false d981r1)
  (.seq (.seq (.region false d981r2)
  (.cond (.tmp 22) (.seq (.region false d981r3)
  .ret)
  .skip))
  (.seq (.region false d981r4)
  (.seq (.region true d981r5)
  (.seq (.region false d981r6)
  .ret))))))
def d981res : List DRes := [.slot 4]
theorem c981 [Laid] : CodeOf Tryd.prog 81 40 d981 d981res := ⟨Tryd.f81, by kernel_rfl, by kernel_rfl, by kernel_rfl, by kernel_rfl, by kernel_rfl⟩
-- (*emendate/editscript.state).insert
def d982r0 : List RO := [
  ⟨.mov (.con (.v (.bool false))), (some 4), none, [], none⟩]
def d982r1 : List RO := [
  ⟨.mov (.tmp 1), (some 5), none, [], none⟩,
  ⟨.bin .lss (.tmp 5) (.con (.v (.int .i64 0))), (some 6), none, [0], none⟩,
  ⟨.mov (.tmp 6), (some 7), none, [1], none⟩,
  ⟨.mov (.tmp 1), (some 8), (some (7, false)), [2], none⟩,
  ⟨.mov (.tmp 0), (some 9), (some (7, false)), [2], none⟩,
  ⟨.nilCheck (.tmp 9), (some 10), (some (7, false)), [4, 2], none⟩,
  ⟨.addOff 0 (.tmp 10), (some 11), (some (7, false)), [5, 2], none⟩,
  ⟨.addOff 1 (.tmp 11), (some 12), (some (7, false)), [6, 2], none⟩,
  ⟨.load 1 false (.tmp 12), (some 13), (some (7, false)), [7, 2], none⟩,
  ⟨.len (.tmp 13), (some 14), (some (7, false)), [8, 2], none⟩,
  ⟨.bin .geq (.tmp 8) (.tmp 14), (some 15), (some (7, false)), [3, 9, 2], none⟩,
  ⟨.pick (.tmp 7) (.con (.v (.bool true))) (.tmp 15), (some 16), none, [2, 10], none⟩]
def d982r2 : List RO := [
  ⟨.mov (.con (.v (.bool false))), (some 4), none, [], none⟩]
def d982r3 : List RO := [
  ⟨.mov (.tmp 0), (some 17), none, [], none⟩,
  ⟨.mov (.tmp 1), (some 18), none, [], none⟩,
  ⟨.call 78 [(.tmp 17), (.tmp 18)], (some 19), none, [0, 1], none⟩]
def d982r3S : List RO := [
  ⟨.mov (.tmp 0), (some 17), none, [], none⟩,
  ⟨.mov (.tmp 1), (some 18), none, [], none⟩,
  ⟨.callS 78 [(.tmp 17), (.tmp 18)], (some 19), none, [0, 1], none⟩]
def d982r4 : List RO := [
  ⟨.mov (.tmp 0), (some 20), none, [], none⟩,
  ⟨.mov (.tmp 0), (some 21), none, [], none⟩,
  ⟨.nilCheck (.tmp 21), (some 22), none, [1], none⟩,
  ⟨.addOff 5 (.tmp 22), (some 23), none, [2], none⟩,
  ⟨.load 1 false (.tmp 23), (some 24), none, [3], none⟩,
  ⟨.mov (.tmp 0), (some 25), none, [], none⟩,
  ⟨.nilCheck (.tmp 25), (some 26), none, [5], none⟩,
  ⟨.addOff 0 (.tmp 26), (some 27), none, [6], none⟩,
  ⟨.addOff 1 (.tmp 27), (some 28), none, [7], none⟩,
  ⟨.load 1 false (.tmp 28), (some 29), none, [8], none⟩,
  ⟨.mov (.tmp 1), (some 30), none, [], none⟩,
  ⟨.idxAddr 1 (.tmp 29) (.tmp 30), (some 31), none, [9, 10], none⟩,
  ⟨.load 1 false (.tmp 31), (some 32), none, [11], none⟩,
  ⟨.call 85 [(.tmp 24), (.tmp 32)], (some 33), none, [4, 12], none⟩,
  ⟨.nilCheck (.tmp 20), (some 34), none, [0, 0, 1, 2, 3, 4, 5, 6, 7, 8, 9, 10, 11, 12, 13], none⟩,
  ⟨.addOff 5 (.tmp 34), (some 35), none, [14, 0, 1, 2, 3, 4, 5, 6, 7, 8, 9, 10, 11, 12, 13], none⟩,
  ⟨.store 1 (.tmp 35) (.tmp 33), none, none, [15, 13, 13, 0, 1, 2, 3, 4, 5, 6, 7, 8, 9, 10, 11, 12, 13], none⟩]
def d982r5 : List RO := [
  ⟨.mov (.con (.v (.bool true))), (some 4), none, [], none⟩]
def d982 : DC := (.seq (.region false d982r0)
  (.seq (.seq (.region false d982r1)
  (.cond (.tmp 16) (.seq (.region false d982r2)
  .ret)
  .skip))
  (.seq (.region false d982r3)
  (.seq (.region true d982r4)
  (.seq (.region false d982r5)
  .ret)))))
def d982res : List DRes := [.slot 4]
theorem c982 [Laid] : CodeOf Tryd.prog 82 36 d982 d982res := ⟨Tryd.f82, by kernel_rfl, by kernel_rfl, by kernel_rfl, by kernel_rfl, by kernel_rfl⟩
-- (*emendate/editscript.state).swap
def d983r0 : List RO := [
  ⟨.mov (.con (.v (.bool false))), (some 4), none, [], none⟩]
def d983r1 : List RO := [
  ⟨.mov (.tmp 1), (some 5), none, [], none⟩,
  ⟨.bin .neq (.tmp 5) (.con (.v (.int .i64 0))), (some 6), none, [0], none⟩,
  ⟨.mov (.tmp 6), (some 7), none, [1], none⟩,
  ⟨.mov (.tmp 0), (some 8), (some (7, false)), [2], none⟩,
  ⟨.nilCheck (.tmp 8), (some 9), (some (7, false)), [3, 2], none⟩,
  ⟨.addOff 0 (.tmp 9), (some 10), (some (7, false)), [4, 2], none⟩,
  ⟨.load 3 true (.tmp 10), (some 11), (some (7, false)), [5, 2], none⟩,
  ⟨.mov (.tmp 0), (some 12), (some (7, false)), [2], none⟩,
  ⟨.nilCheck (.tmp 12), (some 13), (some (7, false)), [7, 2], none⟩,
  ⟨.addOff 3 (.tmp 13), (some 14), (some (7, false)), [8, 2], none⟩,
  ⟨.load 1 false (.tmp 14), (some 15), (some (7, false)), [9, 2], none⟩,
  ⟨.call 86 [(.tmp 11), (.tmp 15)], (some 16), (some (7, false)), [6, 10, 2, 2], none⟩,
  ⟨.un .not (.tmp 16), (some 17), (some (7, false)), [11, 2], none⟩,
  ⟨.pick (.tmp 7) (.con (.v (.bool true))) (.tmp 17), (some 18), none, [2, 12], none⟩]
def d983r2 : List RO := [
  ⟨.mov (.con (.v (.bool false))), (some 4), none, [], none⟩]
def d983r3 : List RO := [
  ⟨.mov (.tmp 0), (some 19), none, [], none⟩,
  ⟨.mov (.tmp 0), (some 20), none, [], none⟩,
  ⟨.nilCheck (.tmp 20), (some 21), none, [1], none⟩,
  ⟨.addOff 0 (.tmp 21), (some 22), none, [2], none⟩,
  ⟨.addOff 0 (.tmp 22), (some 23), none, [3], none⟩,
  ⟨.load 1 false (.tmp 23), (some 24), none, [4], none⟩,
  ⟨.mov (.tmp 0), (some 25), none, [], none⟩,
  ⟨.nilCheck (.tmp 25), (some 26), none, [6], none⟩,
  ⟨.addOff 3 (.tmp 26), (some 27), none, [7], none⟩,
  ⟨.load 1 false (.tmp 27), (some 28), none, [8], none⟩,
  ⟨.bin .add (.tmp 28) (.con (.v (.int .i64 1))), (some 29), none, [9], none⟩,
  ⟨.idxAddr 3 (.tmp 24) (.tmp 29), (some 30), none, [5, 10], none⟩,
  ⟨.addOff 0 (.tmp 30), (some 31), none, [11], none⟩,
  ⟨.load 1 false (.tmp 31), (some 32), none, [12], none⟩,
  ⟨.call 78 [(.tmp 19), (.tmp 32)], (some 33), none, [0, 13], none⟩]
def d983r3S : List RO := [
  ⟨.mov (.tmp 0), (some 19), none, [], none⟩,
  ⟨.mov (.tmp 0), (some 20), none, [], none⟩,
  ⟨.nilCheck (.tmp 20), (some 21), none, [1], none⟩,
  ⟨.addOff 0 (.tmp 21), (some 22), none, [2], none⟩,
  ⟨.addOff 0 (.tmp 22), (some 23), none, [3], none⟩,
  ⟨.load 1 false (.tmp 23), (some 24), none, [4], none⟩,
  ⟨.mov (.tmp 0), (some 25), none, [], none⟩,
  ⟨.nilCheck (.tmp 25), (some 26), none, [6], none⟩,
  ⟨.addOff 3 (.tmp 26), (some 27), none, [7], none⟩,
  ⟨.load 1 false (.tmp 27), (some 28), none, [8], none⟩,
  ⟨.bin .add (.tmp 28) (.con (.v (.int .i64 1))), (some 29), none, [9], none⟩,
  ⟨.idxAddr 3 (.tmp 24) (.tmp 29), (some 30), none, [5, 10], none⟩,
  ⟨.addOff 0 (.tmp 30), (some 31), none, [11], none⟩,
  ⟨.load 1 false (.tmp 31), (some 32), none, [12], none⟩,
  ⟨.callS 78 [(.tmp 19), (.tmp 32)], (some 33), none, [0, 13], none⟩]
def d983r4 : List RO := [
  ⟨.mov (.tmp 0), (some 34), none, [], none⟩,
  ⟨.mov (.tmp 0), (some 35), none, [], none⟩,
  ⟨.nilCheck (.tmp 35), (some 36), none, [1], none⟩,
  ⟨.addOff 0 (.tmp 36), (some 37), none, [2], none⟩,
  ⟨.addOff 0 (.tmp 37), (some 38), none, [3], none⟩,
  ⟨.load 1 false (.tmp 38), (some 39), none, [4], none⟩,
  ⟨.mov (.tmp 0), (some 40), none, [], none⟩,
  ⟨.nilCheck (.tmp 40), (some 41), none, [6], none⟩,
  ⟨.addOff 3 (.tmp 41), (some 42), none, [7], none⟩,
  ⟨.load 1 false (.tmp 42), (some 43), none, [8], none⟩,
  ⟨.idxAddr 3 (.tmp 39) (.tmp 43), (some 44), none, [5, 9], none⟩,
  ⟨.addOff 0 (.tmp 44), (some 45), none, [10], none⟩,
  ⟨.load 1 false (.tmp 45), (some 46), none, [11], none⟩,
  ⟨.call 78 [(.tmp 34), (.tmp 46)], (some 47), none, [0, 12], none⟩]
def d983r4S : List RO := [
  ⟨.mov (.tmp 0), (some 34), none, [], none⟩,
  ⟨.mov (.tmp 0), (some 35), none, [], none⟩,
  ⟨.nilCheck (.tmp 35), (some 36), none, [1], none⟩,
  ⟨.addOff 0 (.tmp 36), (some 37), none, [2], none⟩,
  ⟨.addOff 0 (.tmp 37), (some 38), none, [3], none⟩,
  ⟨.load 1 false (.tmp 38), (some 39), none, [4], none⟩,
  ⟨.mov (.tmp 0), (some 40), none, [], none⟩,
  ⟨.nilCheck (.tmp 40), (some 41), none, [6], none⟩,
  ⟨.addOff 3 (.tmp 41), (some 42), none, [7], none⟩,
  ⟨.load 1 false (.tmp 42), (some 43), none, [8], none⟩,
  ⟨.idxAddr 3 (.tmp 39) (.tmp 43), (some 44), none, [5, 9], none⟩,
  ⟨.addOff 0 (.tmp 44), (some 45), none, [10], none⟩,
  ⟨.load 1 false (.tmp 45), (some 46), none, [11], none⟩,
  ⟨.callS 78 [(.tmp 34), (.tmp 46)], (some 47), none, [0, 12], none⟩]
def d983r5 : List RO := [
  ⟨.mov (.tmp 0), (some 48), none, [], none⟩,
  ⟨.nilCheck (.tmp 48), (some 49), none, [0], none⟩,
  ⟨.addOff 3 (.tmp 49), (some 50), none, [1], none⟩,
  ⟨.load 1 false (.tmp 50), (some 51), none, [2], none⟩,
  ⟨.bin .add (.tmp 51) (.con (.v (.int .i64 2))), (some 52), none, [3], none⟩,
  ⟨.nilCheck (.tmp 48), (some 53), none, [0, 0, 1, 2, 3, 4], none⟩,
  ⟨.addOff 3 (.tmp 53), (some 54), none, [5, 0, 1, 2, 3, 4], none⟩,
  ⟨.store 1 (.tmp 54) (.tmp 52), none, none, [6, 4, 0, 1, 2, 3, 4], none⟩]
def d983r6 : List RO := [
  ⟨.mov (.tmp 0), (some 55), none, [], none⟩,
  ⟨.mov (.tmp 0), (some 56), none, [], none⟩,
  ⟨.nilCheck (.tmp 56), (some 57), none, [1], none⟩,
  ⟨.addOff 5 (.tmp 57), (some 58), none, [2], none⟩,
  ⟨.load 1 false (.tmp 58), (some 59), none, [3], none⟩,
  ⟨.mov (.tmp 0), (some 60), none, [], none⟩,
  ⟨.nilCheck (.tmp 60), (some 61), none, [5], none⟩,
  ⟨.addOff 0 (.tmp 61), (some 62), none, [6], none⟩,
  ⟨.addOff 2 (.tmp 62), (some 63), none, [7], none⟩,
  ⟨.load 1 false (.tmp 63), (some 64), none, [8], none⟩,
  ⟨.call 85 [(.tmp 59), (.tmp 64)], (some 65), none, [4, 9], none⟩,
  ⟨.nilCheck (.tmp 55), (some 66), none, [0, 0, 1, 2, 3, 4, 5, 6, 7, 8, 9, 10], none⟩,
  ⟨.addOff 5 (.tmp 66), (some 67), none, [11, 0, 1, 2, 3, 4, 5, 6, 7, 8, 9, 10], none⟩,
  ⟨.store 1 (.tmp 67) (.tmp 65), none, none, [12, 10, 10, 0, 1, 2, 3, 4, 5, 6, 7, 8, 9, 10], none⟩]
def d983r7 : List RO := [
  ⟨.mov (.con (.v (.bool true))), (some 4), none, [], none⟩]
def d983 : DC := (.seq (.region false d983r0)
  (.seq (.seq (.region true d983r1)
  (.cond (.tmp 18) (.seq (.region false d983r2)
  .ret)
  .skip))
  (.seq (.region true d983r3)
  (.seq (.region true d983r4)
  (.seq (.region false d983r5)
  (.seq (.region true d983r6)
  (.seq (.region false d983r7)
  .ret)))))))
def d983res : List DRes := [.slot 4]
theorem c983 [Laid] : CodeOf Tryd.prog 83 68 d983 d983res := ⟨Tryd.f83, by kernel_rfl, by kernel_rfl, by kernel_rfl, by kernel_rfl, by kernel_rfl⟩
-- emendate/editscript.run
def d931r0 : List RO := [
  ⟨.box (.tmp 0), (some 2), none, [], none⟩,
  ⟨.mov (.con (.v (.raw (Go.Value.pointer Option.none)))), (some 4), none, [], none⟩,
  ⟨.mov (.con (.v (.int .i64 0))), (some 5), none, [1], none⟩]
def d931r1 : List RO := [
  ⟨.load 3 true (.tmp 2), (some 9), none, [], none⟩,
  ⟨.build [.nil0, .nil0, (.v (.int .i64 0)), (.v (.int .i64 0)), .nil0, (.v (.int .i64 0))] [(0, 3, (.tmp 9))], (some 10), none, [0], none⟩,
  ⟨.box (.tmp 10), (some 11), none, [1], none⟩,
  ⟨.mov (.tmp 11), (some 6), none, [2, 0, 1, 2], none⟩]
def d931r2 : List RO := [
  ⟨.mov (.tmp 1), (some 12), none, [], none⟩,
  ⟨.len (.tmp 12), (some 13), none, [0], none⟩,
  ⟨.mov (.con (.v (.int .i64 0))), (some 14), none, [], none⟩]
def d931r3 : List RO := [
  ⟨.bin .lss (.tmp 14) (.tmp 13), (some 15), none, [], none⟩]
def d931r4 : List RO := [
  ⟨.idxAddr 2 (.tmp 12) (.tmp 14), (some 16), none, [], none⟩,
  ⟨.load 2 true (.tmp 16), (some 17), none, [0], none⟩,
  ⟨.alloc [(.v (.int .i64 0)), (.v (.int .i64 0))], (some 8), none, [], none⟩,
  ⟨.store 2 (.tmp 8) (.tmp 17), none, none, [2, 1, 0, 1, 2], none⟩]
def d931r5 : List RO := [
  ⟨.addOff 0 (.tmp 8), (some 18), none, [], none⟩,
  ⟨.load 1 false (.tmp 18), (some 19), none, [0], none⟩,
  ⟨.bin .lss (.tmp 19) (.con (.v (.int .i64 1))), (some 20), none, [1], none⟩,
  ⟨.mov (.tmp 20), (some 21), none, [2], none⟩,
  ⟨.addOff 0 (.tmp 8), (some 22), (some (21, false)), [3], none⟩,
  ⟨.load 1 false (.tmp 22), (some 23), (some (21, false)), [4, 3], none⟩,
  ⟨.bin .gtr (.tmp 23) (.con (.v (.int .i64 4))), (some 24), (some (21, false)), [5, 3], none⟩,
  ⟨.pick (.tmp 21) (.con (.v (.bool true))) (.tmp 24), (some 25), none, [3, 6], none⟩,
  ⟨.mov (.tmp 25), (some 26), none, [7, 3], none⟩,
  ⟨.addOff 0 (.tmp 8), (some 27), (some (26, false)), [8], none⟩,
  ⟨.load 1 false (.tmp 27), (some 28), (some (26, false)), [9, 8], none⟩,
  ⟨.arrAddr 5 1 (.con (.bptr [(.raw (Go.Value.nilFunc)), (.fn (.func 80) []), (.fn (.func 81) []), (.fn (.func 82) []), (.fn (.func 83) [])] 0)) (.tmp 28), (some 29), (some (26, false)), [10, 8], none⟩,
  ⟨.load 1 false (.tmp 29), (some 30), (some (26, false)), [11, 8], none⟩,
  ⟨.mov (.tmp 6), (some 31), (some (26, false)), [8], none⟩,
  ⟨.addOff 1 (.tmp 8), (some 32), (some (26, false)), [8], none⟩,
  ⟨.load 1 false (.tmp 32), (some 33), (some (26, false)), [14, 8], none⟩,
  ⟨.callv (.tmp 30) [(.tmp 31), (.tmp 33)], (some 34), (some (26, false)), [12, 13, 15, 8, 8], none⟩,
  ⟨.un .not (.tmp 34), (some 35), (some (26, false)), [16, 8], none⟩,
  ⟨.pick (.tmp 26) (.con (.v (.bool true))) (.tmp 35), (some 36), none, [8, 17], none⟩]
def d931r6 : List RO := [
  ⟨.mov (.con (.v (.raw (Go.Value.pointer Option.none)))), (some 4), none, [], none⟩,
  ⟨.mov (.con (.v (.int .i64 1))), (some 5), none, [0, 0], none⟩]
def d931r7 : List RO := [
  ⟨.bin .add (.tmp 14) (.con (.v (.int .i64 1))), (some 37), none, [], none⟩,
  ⟨.mov (.tmp 37), (some 14), none, [0], none⟩]
def d931r8 : List RO := [
  ⟨.mov (.tmp 6), (some 38), none, [], none⟩,
  ⟨.nilCheck (.tmp 38), (some 39), none, [0], none⟩,
  ⟨.addOff 3 (.tmp 39), (some 40), none, [1], none⟩,
  ⟨.load 1 false (.tmp 40), (some 41), none, [2], none⟩,
  ⟨.addOff 0 (.tmp 2), (some 42), none, [], none⟩,
  ⟨.load 1 false (.tmp 42), (some 43), none, [4], none⟩,
  ⟨.len (.tmp 43), (some 44), none, [5], none⟩,
  ⟨.bin .neq (.tmp 41) (.tmp 44), (some 45), none, [3, 6], none⟩]
def d931r9 : List RO := [
  ⟨.mov (.con (.v (.raw (Go.Value.pointer Option.none)))), (some 4), none, [], none⟩,
  ⟨.mov (.con (.v (.int .i64 1))), (some 5), none, [0, 0], none⟩]
def d931r10 : List RO := [
  ⟨.mov (.tmp 6), (some 46), none, [], none⟩,
  ⟨.mov (.tmp 46), (some 4), none, [0, 0], none⟩,
  ⟨.mov (.con (.v (.int .i64 0))), (some 5), none, [1, 0, 1], none⟩]
def d931 : DC := (.seq (.region false d931r0)
  (.seq (.region false d931r1)
  (.seq (.seq (.region false d931r2)
  (.block 0 (.loop (.seq (.region false d931r3)
  (.seq (.cond (.tmp 15) .skip
  (.exit 0))
  (.seq (.block 1 (.seq (.region false d931r4)
  (.seq (.region true d931r5)
  (.cond (.tmp 36) (.seq (.region false d931r6)
  .ret)
  .skip))))
  (.region false d931r7)))))))
  (.seq (.seq (.region true d931r8)
  (.cond (.tmp 45) (.seq (.region false d931r9)
  .ret)
  .skip))
  (.seq (.region false d931r10)
  .ret)))))
def d931res : List DRes := [.slot 4, .slot 5]
theorem c931 : CodeOf Tryd.prog 31 47 d931 d931res := ⟨Tryd.f31, by kernel_rfl, by kernel_rfl, by kernel_rfl, by kernel_rfl, by kernel_rfl⟩
-- emendate/editscript.Apply
def d912r0 : List RO := [
  ⟨.box (.tmp 0), (some 2), none, [], none⟩,
  ⟨.mov (.con .nil0), (some 4), none, [], none⟩,
  ⟨.mov (.con (.v (.int .i64 0))), (some 5), none, [1], none⟩]
def d912r1 : List RO := [
  ⟨.load 3 true (.tmp 2), (some 9), none, [], none⟩,
  ⟨.mov (.tmp 1), (some 10), none, [], none⟩,
  ⟨.call 31 [(.tmp 9), (.tmp 10)], (some 11), none, [0, 1], none⟩,
  ⟨.mov (.tmp 11), (some 8), none, [2], none⟩,
  ⟨.extract 0 (.tmp 8), (some 12), none, [3], none⟩,
  ⟨.extract 1 (.tmp 8), (some 13), none, [3], none⟩,
  ⟨.mov (.tmp 12), (some 6), none, [4, 2, 0, 1, 2, 3, 4], none⟩,
  ⟨.mov (.tmp 13), (some 7), none, [5, 6, 0, 1, 2, 3, 4, 5, 6], none⟩]
def d912r2 : List RO := [
  ⟨.mov (.tmp 7), (some 14), none, [], none⟩,
  ⟨.bin .neq (.tmp 14) (.con (.v (.int .i64 0))), (some 15), none, [0], none⟩]
def d912r3 : List RO := [
  ⟨.mov (.tmp 7), (some 16), none, [], none⟩,
  ⟨.mov (.con .nil0), (some 4), none, [], none⟩,
  ⟨.mov (.tmp 16), (some 5), none, [0, 1, 0, 1], none⟩]
def d912r4 : List RO := [
  ⟨.mov (.tmp 6), (some 17), none, [], none⟩,
  ⟨.nilCheck (.tmp 17), (some 18), none, [0], none⟩,
  ⟨.addOff 4 (.tmp 18), (some 19), none, [1], none⟩,
  ⟨.load 1 false (.tmp 19), (some 20), none, [2], none⟩,
  ⟨.mov (.tmp 20), (some 4), none, [3, 0, 1, 2, 3], none⟩,
  ⟨.mov (.con (.v (.int .i64 0))), (some 5), none, [4, 0, 1, 2, 3, 4], none⟩]
def d912 : DC := (.seq (.region false d912r0)
  (.seq (.region false d912r1)
  (.seq (.seq (.region false d912r2)
  (.cond (.tmp 15) (.seq (.region false d912r3)
  .ret)
  .skip))
  (.seq (.region false d912r4)
  .ret))))
def d912res : List DRes := [.slot 4, .slot 5]
theorem c912 [Laid] : CodeOf Tryd.prog 12 21 d912 d912res := ⟨Tryd.f12, by kernel_rfl, by kernel_rfl, by kernel_rfl, by kernel_rfl, by kernel_rfl⟩
-- emendate/editscript.Cost
def d913r0 : List RO := [
  ⟨.box (.tmp 0), (some 2), none, [], none⟩,
  ⟨.mov (.con (.v (.int .i64 0))), (some 4), none, [], none⟩,
  ⟨.mov (.con (.v (.int .i64 0))), (some 5), none, [1], none⟩]
def d913r1 : List RO := [
  ⟨.load 3 true (.tmp 2), (some 9), none, [], none⟩,
  ⟨.mov (.tmp 1), (some 10), none, [], none⟩,
  ⟨.call 31 [(.tmp 9), (.tmp 10)], (some 11), none, [0, 1], none⟩,
  ⟨.mov (.tmp 11), (some 8), none, [2], none⟩,
  ⟨.extract 0 (.tmp 8), (some 12), none, [3], none⟩,
  ⟨.extract 1 (.tmp 8), (some 13), none, [3], none⟩,
  ⟨.mov (.tmp 12), (some 6), none, [4, 2, 0, 1, 2, 3, 4], none⟩,
  ⟨.mov (.tmp 13), (some 7), none, [5, 6, 0, 1, 2, 3, 4, 5, 6], none⟩]
def d913r2 : List RO := [
  ⟨.mov (.tmp 7), (some 14), none, [], none⟩,
  ⟨.bin .neq (.tmp 14) (.con (.v (.int .i64 0))), (some 15), none, [0], none⟩]
def d913r3 : List RO := [
  ⟨.mov (.tmp 7), (some 16), none, [], none⟩,
  ⟨.mov (.con (.v (.int .i64 0))), (some 4), none, [], none⟩,
  ⟨.mov (.tmp 16), (some 5), none, [0, 1, 0, 1], none⟩]
def d913r4 : List RO := [
  ⟨.mov (.tmp 6), (some 17), none, [], none⟩,
  ⟨.nilCheck (.tmp 17), (some 18), none, [0], none⟩,
  ⟨.addOff 5 (.tmp 18), (some 19), none, [1], none⟩,
  ⟨.load 1 false (.tmp 19), (some 20), none, [2], none⟩,
  ⟨.mov (.tmp 20), (some 4), none, [3, 0, 1, 2, 3], none⟩,
  ⟨.mov (.con (.v (.int .i64 0))), (some 5), none, [4, 0, 1, 2, 3, 4], none⟩]
def d913 : DC := (.seq (.region false d913r0)
  (.seq (.region false d913r1)
  (.seq (.seq (.region false d913r2)
  (.cond (.tmp 15) (.seq (.region false d913r3)
  .ret)
  .skip))
  (.seq (.region false d913r4)
  .ret))))
def d913res : List DRes := [.slot 4, .slot 5]
theorem c913 [Laid] : CodeOf Tryd.prog 13 21 d913 d913res := ⟨Tryd.f13, by kernel_rfl, by kernel_rfl, by kernel_rfl, by kernel_rfl, by kernel_rfl⟩
-- emendate/emendatelaw37.walk
def d909r0 : List RO := [
  ⟨.box (.tmp 0), (some 2), none, [], none⟩,
  ⟨.mov (.con .nil0), (some 4), none, [], none⟩]
def d909r1 : List RO := [
  ⟨.mov (.con .nil0), (some 5), none, [], none⟩]
def d909r2 : List RO := [
  ⟨.mov (.con (.v (.int .i64 0))), (some 6), none, [], none⟩]
def d909r3 : List RO := [
  ⟨.mov (.con (.v (.int .i64 0))), (some 7), none, [], none⟩]
def d909r4 : List RO := [
  ⟨.mov (.tmp 7), (some 11), none, [], none⟩,
  ⟨.mov (.tmp 1), (some 12), none, [], none⟩,
  ⟨.len (.tmp 12), (some 13), none, [1], none⟩,
  ⟨.bin .lss (.tmp 11) (.tmp 13), (some 14), none, [0, 2], none⟩]
def d909r5 : List RO := [
  ⟨.mov (.con .nil0), (some 8), none, [], none⟩]
def d909r6 : List RO := [
  ⟨.mov (.con (.v (.int .i64 0))), (some 9), none, [], none⟩]
def d909r7 : List RO := [
  ⟨.mov (.tmp 9), (some 17), none, [], none⟩,
  ⟨.addOff 1 (.tmp 2), (some 18), none, [], none⟩,
  ⟨.load 1 false (.tmp 18), (some 19), none, [1], none⟩,
  ⟨.len (.tmp 19), (some 20), none, [2], none⟩,
  ⟨.bin .lss (.tmp 17) (.tmp 20), (some 21), none, [0, 3], none⟩]
def d909r8 : List RO := [
  ⟨.addOff 1 (.tmp 2), (some 24), none, [], none⟩,
  ⟨.load 1 false (.tmp 24), (some 25), none, [0], none⟩,
  ⟨.mov (.tmp 9), (some 26), none, [], none⟩,
  ⟨.idxAddr 5 (.tmp 25) (.tmp 26), (some 27), none, [1, 2], none⟩,
  ⟨.addOff 0 (.tmp 27), (some 28), none, [3], none⟩,
  ⟨.load 1 false (.tmp 28), (some 29), none, [4], none⟩,
  ⟨.mov (.tmp 6), (some 30), none, [], none⟩,
  ⟨.bin .eql (.tmp 29) (.tmp 30), (some 31), none, [5, 6], none⟩]
def d909r9 : List RO := [
  ⟨.mov (.tmp 8), (some 32), none, [], none⟩,
  ⟨.mov (.tmp 9), (some 33), none, [], none⟩,
  ⟨.bslice 1 1 [(.v (.int .i64 0))] [(0, 1, (.tmp 33))], (some 34), none, [1], none⟩,
  ⟨.append 3 1 8 (.tmp 32) (.tmp 34), (some 35), none, [0, 2], none⟩,
  ⟨.mov (.tmp 35), (some 8), none, [3, 3, 0, 1, 2, 3], none⟩]
def d909r10 : List RO := [
  ⟨.mov (.tmp 9), (some 22), none, [], none⟩,
  ⟨.bin .add (.tmp 22) (.con (.v (.int .i64 1))), (some 23), none, [0], none⟩,
  ⟨.mov (.tmp 23), (some 9), none, [1, 0, 1], none⟩]
def d909r11 : List RO := [
  ⟨.mov (.tmp 8), (some 36), none, [], none⟩,
  ⟨.len (.tmp 36), (some 37), none, [0], none⟩,
  ⟨.bin .eql (.tmp 37) (.con (.v (.int .i64 0))), (some 38), none, [1], none⟩]
def d909r12 : List RO := [
  ⟨.mov (.tmp 5), (some 39), none, [], none⟩,
  ⟨.mov (.tmp 39), (some 4), none, [0, 0], none⟩]
def d909r13 : List RO := [
  ⟨.mov (.tmp 8), (some 40), none, [], none⟩,
  ⟨.mov (.tmp 1), (some 41), none, [], none⟩,
  ⟨.mov (.tmp 7), (some 42), none, [], none⟩,
  ⟨.idxAddr 1 (.tmp 41) (.tmp 42), (some 43), none, [1, 2], none⟩,
  ⟨.load 1 false (.tmp 43), (some 44), none, [3], none⟩,
  ⟨.conv .i64 (.tmp 44), (some 45), none, [4], none⟩,
  ⟨.mov (.tmp 8), (some 46), none, [], none⟩,
  ⟨.len (.tmp 46), (some 47), none, [6], none⟩,
  ⟨.bin .rem (.tmp 45) (.tmp 47), (some 48), none, [5, 7], none⟩,
  ⟨.idxAddr 1 (.tmp 40) (.tmp 48), (some 49), none, [0, 8], none⟩,
  ⟨.load 1 false (.tmp 49), (some 50), none, [9], none⟩,
  ⟨.mov (.tmp 50), (some 10), none, [10, 0, 1, 2, 3, 4, 5, 6, 7, 8, 9, 10], none⟩]
def d909r14 : List RO := [
  ⟨.mov (.tmp 5), (some 51), none, [], none⟩,
  ⟨.mov (.tmp 10), (some 52), none, [], none⟩,
  ⟨.bslice 1 1 [(.v (.int .i64 0))] [(0, 1, (.tmp 52))], (some 53), none, [1], none⟩,
  ⟨.append 3 1 8 (.tmp 51) (.tmp 53), (some 54), none, [0, 2], none⟩,
  ⟨.mov (.tmp 54), (some 5), none, [3, 3, 0, 1, 2, 3], none⟩]
def d909r15 : List RO := [
  ⟨.addOff 1 (.tmp 2), (some 55), none, [], none⟩,
  ⟨.load 1 false (.tmp 55), (some 56), none, [0], none⟩,
  ⟨.mov (.tmp 10), (some 57), none, [], none⟩,
  ⟨.idxAddr 5 (.tmp 56) (.tmp 57), (some 58), none, [1, 2], none⟩,
  ⟨.addOff 1 (.tmp 58), (some 59), none, [3], none⟩,
  ⟨.load 1 false (.tmp 59), (some 60), none, [4], none⟩,
  ⟨.mov (.tmp 60), (some 6), none, [5, 0, 1, 2, 3, 4, 5], none⟩]
def d909r16 : List RO := [
  ⟨.mov (.tmp 7), (some 15), none, [], none⟩,
  ⟨.bin .add (.tmp 15) (.con (.v (.int .i64 1))), (some 16), none, [0], none⟩,
  ⟨.mov (.tmp 16), (some 7), none, [1, 0, 1], none⟩]
def d909r17 : List RO := [
  ⟨.mov (.tmp 5), (some 61), none, [], none⟩,
  ⟨.mov (.tmp 61), (some 4), none, [0, 0], none⟩]
def d909 : DC := (.seq (.region false d909r0)
  (.seq (.region false d909r1)
  (.seq (.region false d909r2)
  (.seq (.seq (.region false d909r3)
  (.block 0 (.loop (.seq (.seq (.region false d909r4)
  (.cond (.tmp 14) .skip
  (.exit 0)))
  (.seq (.block 1 (.seq (.region false d909r5)
  (.seq (.seq (.region false d909r6)
  (.block 2 (.loop (.seq (.seq (.region false d909r7)
  (.cond (.tmp 21) .skip
  (.exit 2)))
  (.seq (.block 3 (.seq (.region false d909r8)
  (.cond (.tmp 31) (.region false d909r9)
  .skip)))
  (.region false d909r10))))))
  (.seq (.seq (.region false d909r11)
  (.cond (.tmp 38) (.seq (.region false d909r12)
  .ret)
  .skip))
  (.seq (.region false d909r13)
  (.seq (.region false d909r14)
  (.region false d909r15)))))))
  (.region false d909r16))))))
  (.seq (.region false d909r17)
  .ret)))))
def d909res : List DRes := [.slot 4]
theorem c909 [Laid] : CodeOf Tryd.prog 9 62 d909 d909res := ⟨Tryd.f9, by kernel_rfl, by kernel_rfl, by kernel_rfl, by kernel_rfl, by kernel_rfl⟩
-- emendate/emendatelaw37.LatticeScriptRealizesPath
def d903r0 : List RO := [
  ⟨.box (.tmp 0), (some 2), none, [], none⟩,
  ⟨.mov (.con (.v (.bool false))), (some 4), none, [], none⟩]
def d903r1 : List RO := [
  ⟨.call 4 [], (some 18), none, [], none⟩,
  ⟨.un .not (.tmp 18), (some 19), none, [0], none⟩]
def d903r2 : List RO := [
  ⟨.mov (.con (.v (.bool false))), (some 4), none, [], none⟩]
def d903r3 : List RO := [
  ⟨.load 3 true (.tmp 2), (some 20), none, [], none⟩,
  ⟨.call 5 [(.tmp 20), (.con (.v (.int .i64 6)))], (some 21), none, [0], none⟩,
  ⟨.un .not (.tmp 21), (some 22), none, [1], none⟩,
  ⟨.mov (.tmp 22), (some 23), none, [2, 1], none⟩,
  ⟨.mov (.tmp 1), (some 24), (some (23, false)), [3], none⟩,
  ⟨.len (.tmp 24), (some 25), (some (23, false)), [4, 3], none⟩,
  ⟨.bin .gtr (.tmp 25) (.con (.v (.int .i64 12))), (some 26), (some (23, false)), [5, 3], none⟩,
  ⟨.pick (.tmp 23) (.con (.v (.bool true))) (.tmp 26), (some 27), none, [3, 6], none⟩]
def d903r4 : List RO := [
  ⟨.mov (.con (.v (.bool true))), (some 4), none, [], none⟩]
def d903r5 : List RO := [
  ⟨.load 3 true (.tmp 2), (some 28), none, [], none⟩,
  ⟨.call 6 [(.tmp 28)], (some 29), none, [0], none⟩,
  ⟨.alloc [(.v (.int .i64 0)), .nil0, .nil0], (some 5), none, [], none⟩,
  ⟨.store 3 (.tmp 5) (.tmp 29), none, none, [2, 1, 1, 0, 1, 2], none⟩]
def d903r6 : List RO := [
  ⟨.load 3 true (.tmp 5), (some 30), none, [], none⟩,
  ⟨.load 3 true (.tmp 2), (some 31), none, [], none⟩,
  ⟨.call 8 [(.tmp 31)], (some 32), none, [1], none⟩,
  ⟨.call 7 [(.tmp 30), (.tmp 32)], (some 33), none, [0, 2, 2], none⟩,
  ⟨.un .not (.tmp 33), (some 34), none, [3], none⟩]
def d903r7 : List RO := [
  ⟨.mov (.con (.v (.bool false))), (some 4), none, [], none⟩]
def d903r8 : List RO := [
  ⟨.load 3 true (.tmp 5), (some 35), none, [], none⟩,
  ⟨.mov (.tmp 1), (some 36), none, [], none⟩,
  ⟨.call 9 [(.tmp 35), (.tmp 36)], (some 37), none, [0, 1], none⟩,
  ⟨.mov (.tmp 37), (some 6), none, [2, 2, 0, 1, 2], none⟩]
def d903r9 : List RO := [
  ⟨.load 3 true (.tmp 5), (some 39), none, [], none⟩,
  ⟨.mov (.tmp 6), (some 40), none, [], none⟩,
  ⟨.call 10 [(.tmp 39), (.tmp 40)], (some 41), none, [0, 1], none⟩,
  ⟨.mov (.tmp 41), (some 38), none, [2], none⟩,
  ⟨.extract 0 (.tmp 38), (some 42), none, [3], none⟩,
  ⟨.extract 1 (.tmp 38), (some 43), none, [3], none⟩,
  ⟨.extract 2 (.tmp 38), (some 44), none, [3], none⟩,
  ⟨.mov (.tmp 42), (some 7), none, [4, 2, 0, 1, 2, 3, 4], none⟩,
  ⟨.mov (.tmp 43), (some 8), none, [5, 7, 0, 1, 2, 3, 4, 5, 7], none⟩,
  ⟨.mov (.tmp 44), (some 9), none, [6, 8, 0, 1, 2, 3, 4, 5, 6, 7, 8], none⟩]
def d903r10 : List RO := [
  ⟨.load 3 true (.tmp 2), (some 46), none, [], none⟩,
  ⟨.load 3 true (.tmp 5), (some 47), none, [], none⟩,
  ⟨.mov (.tmp 6), (some 48), none, [], none⟩,
  ⟨.call 11 [(.tmp 46), (.tmp 47), (.tmp 48)], (some 49), none, [0, 1, 2], none⟩,
  ⟨.mov (.tmp 49), (some 45), none, [3], none⟩,
  ⟨.extract 0 (.tmp 45), (some 50), none, [4], none⟩,
  ⟨.extract 1 (.tmp 45), (some 51), none, [4], none⟩,
  ⟨.mov (.tmp 50), (some 10), none, [5, 3, 0, 1, 2, 3, 4, 5], none⟩,
  ⟨.mov (.tmp 51), (some 11), none, [6, 7, 0, 1, 2, 3, 4, 5, 6, 7], none⟩]
def d903r11 : List RO := [
  ⟨.mov (.tmp 9), (some 52), none, [], none⟩,
  ⟨.un .not (.tmp 52), (some 53), none, [0], none⟩]
def d903r12 : List RO := [
  ⟨.mov (.tmp 11), (some 54), none, [], none⟩,
  ⟨.bin .eql (.tmp 54) (.con (.v (.int .i64 1))), (some 55), none, [0], none⟩,
  ⟨.mov (.tmp 55), (some 4), none, [1, 0, 1], none⟩]
def d903r13 : List RO := [
  ⟨.mov (.con .nil0), (some 12), none, [], none⟩]
def d903r14 : List RO := [
  ⟨.mov (.con (.v (.int .i64 0))), (some 13), none, [], none⟩]
def d903r15 : List RO := [
  ⟨.mov (.tmp 13), (some 56), none, [], none⟩,
  ⟨.mov (.tmp 6), (some 57), none, [], none⟩,
  ⟨.len (.tmp 57), (some 58), none, [1], none⟩,
  ⟨.bin .lss (.tmp 56) (.tmp 58), (some 59), none, [0, 2], none⟩]
def d903r16 : List RO := [
  ⟨.mov (.tmp 12), (some 62), none, [], none⟩,
  ⟨.addOff 1 (.tmp 5), (some 63), none, [], none⟩,
  ⟨.load 1 false (.tmp 63), (some 64), none, [1], none⟩,
  ⟨.mov (.tmp 6), (some 65), none, [], none⟩,
  ⟨.mov (.tmp 13), (some 66), none, [], none⟩,
  ⟨.idxAddr 1 (.tmp 65) (.tmp 66), (some 67), none, [3, 4], none⟩,
  ⟨.load 1 false (.tmp 67), (some 68), none, [5], none⟩,
  ⟨.idxAddr 5 (.tmp 64) (.tmp 68), (some 69), none, [2, 6], none⟩,
  ⟨.addOff 2 (.tmp 69), (some 70), none, [7], none⟩,
  ⟨.load 1 false (.tmp 70), (some 71), none, [8], none⟩,
  ⟨.bslice 1 1 [(.v (.int .i64 0))] [(0, 1, (.tmp 71))], (some 72), none, [9], none⟩,
  ⟨.append 3 1 8 (.tmp 62) (.tmp 72), (some 73), none, [0, 10], none⟩,
  ⟨.mov (.tmp 73), (some 12), none, [11, 11, 0, 1, 2, 3, 4, 5, 6, 7, 8, 9, 10, 11], none⟩]
def d903r17 : List RO := [
  ⟨.mov (.tmp 13), (some 60), none, [], none⟩,
  ⟨.bin .add (.tmp 60) (.con (.v (.int .i64 1))), (some 61), none, [0], none⟩,
  ⟨.mov (.tmp 61), (some 13), none, [1, 0, 1], none⟩]
def d903r18 : List RO := [
  ⟨.load 3 true (.tmp 2), (some 75), none, [], none⟩,
  ⟨.mov (.tmp 10), (some 76), none, [], none⟩,
  ⟨.call 12 [(.tmp 75), (.tmp 76)], (some 77), none, [0, 1], none⟩,
  ⟨.mov (.tmp 77), (some 74), none, [2], none⟩,
  ⟨.extract 0 (.tmp 74), (some 78), none, [3], none⟩,
  ⟨.extract 1 (.tmp 74), (some 79), none, [3], none⟩,
  ⟨.mov (.tmp 78), (some 14), none, [4, 2, 0, 1, 2, 3, 4], none⟩,
  ⟨.mov (.tmp 79), (some 15), none, [5, 6, 0, 1, 2, 3, 4, 5, 6], none⟩]
def d903r19 : List RO := [
  ⟨.load 3 true (.tmp 2), (some 81), none, [], none⟩,
  ⟨.mov (.tmp 10), (some 82), none, [], none⟩,
  ⟨.call 13 [(.tmp 81), (.tmp 82)], (some 83), none, [0, 1], none⟩,
  ⟨.mov (.tmp 83), (some 80), none, [2], none⟩,
  ⟨.extract 0 (.tmp 80), (some 84), none, [3], none⟩,
  ⟨.extract 1 (.tmp 80), (some 85), none, [3], none⟩,
  ⟨.mov (.tmp 84), (some 16), none, [4, 2, 0, 1, 2, 3, 4], none⟩,
  ⟨.mov (.tmp 85), (some 17), none, [5, 6, 0, 1, 2, 3, 4, 5, 6], none⟩]
def d903r20 : List RO := [
  ⟨.mov (.tmp 11), (some 86), none, [], none⟩,
  ⟨.bin .eql (.tmp 86) (.con (.v (.int .i64 0))), (some 87), none, [0], none⟩,
  ⟨.mov (.tmp 87), (some 88), none, [1], none⟩,
  ⟨.mov (.tmp 15), (some 89), (some (88, true)), [2], none⟩,
  ⟨.bin .eql (.tmp 89) (.con (.v (.int .i64 0))), (some 90), (some (88, true)), [3, 2], none⟩,
  ⟨.pick (.tmp 88) (.tmp 90) (.con (.v (.bool false))), (some 91), none, [2, 4], none⟩,
  ⟨.mov (.tmp 91), (some 92), none, [5, 2], none⟩,
  ⟨.mov (.tmp 17), (some 93), (some (92, true)), [6], none⟩,
  ⟨.bin .eql (.tmp 93) (.con (.v (.int .i64 0))), (some 94), (some (92, true)), [7, 6], none⟩,
  ⟨.pick (.tmp 92) (.tmp 94) (.con (.v (.bool false))), (some 95), none, [6, 8], none⟩,
  ⟨.mov (.tmp 95), (some 96), none, [9, 6], none⟩,
  ⟨.mov (.tmp 14), (some 97), (some (96, true)), [10], none⟩,
  ⟨.mov (.tmp 12), (some 98), (some (96, true)), [10], none⟩,
  ⟨.call 14 [(.tmp 97), (.tmp 98)], (some 99), (some (96, true)), [11, 12, 10, 10], none⟩,
  ⟨.pick (.tmp 96) (.tmp 99) (.con (.v (.bool false))), (some 100), none, [10, 13], none⟩,
  ⟨.mov (.tmp 100), (some 101), none, [14, 13], none⟩,
  ⟨.mov (.tmp 16), (some 102), (some (101, true)), [15], none⟩,
  ⟨.mov (.tmp 8), (some 103), (some (101, true)), [15], none⟩,
  ⟨.bin .eql (.tmp 102) (.tmp 103), (some 104), (some (101, true)), [16, 17, 15], none⟩,
  ⟨.pick (.tmp 101) (.tmp 104) (.con (.v (.bool false))), (some 105), none, [15, 18], none⟩,
  ⟨.mov (.tmp 105), (some 4), none, [19, 15, 0, 1, 2, 3, 4, 5, 6, 7, 8, 9, 10, 11, 12, 13, 14, 15, 16, 17, 18, 19], none⟩]
def d903 : DC := (.seq (.region false d903r0)
  (.seq (.seq (.region false d903r1)
  (.cond (.tmp 19) (.seq (.region false d903r2)
  .ret)
  .skip))
  (.seq (.seq (.region false d903r3)
  (.cond (.tmp 27) (.seq (.region false d903r4)
  .ret)
  .skip))
  (.seq (.region false d903r5)
  (.seq (.seq (.region true d903r6)
  (.cond (.tmp 34) (.seq (.region false d903r7)
  .ret)
  .skip))
  (.seq (.region false d903r8)
  (.seq (.region false d903r9)
  (.seq (.region false d903r10)
  (.seq (.seq (.region false d903r11)
  (.cond (.tmp 53) (.seq (.region false d903r12)
  .ret)
  .skip))
  (.seq (.region false d903r13)
  (.seq (.seq (.region false d903r14)
  (.block 0 (.loop (.seq (.seq (.region false d903r15)
  (.cond (.tmp 59) .skip
  (.exit 0)))
  (.seq (.block 1 (.region true d903r16))
  (.region false d903r17))))))
  (.seq (.region false d903r18)
  (.seq (.region false d903r19)
  (.seq (.region false d903r20)
  .ret))))))))))))))
def d903res : List DRes := [.slot 4]
theorem c903 [Laid] : CodeOf Tryd.prog 3 106 d903 d903res := ⟨Tryd.f3, by kernel_rfl, by kernel_rfl, by kernel_rfl, by kernel_rfl, by kernel_rfl⟩

end Go.Proofs
