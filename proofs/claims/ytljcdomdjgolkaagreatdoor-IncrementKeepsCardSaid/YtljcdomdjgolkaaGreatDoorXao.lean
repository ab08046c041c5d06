/- The builder of lattices: from. Conditions: none. -/
import Derived.Test.YtljcdomdjgolkaaGreatDoorXan
import Derived.Test.YtljcdomdjgolkaaGreatDoorXah
import Derived.KernelRfl
import Derived.Test.YtljcdomdjgolkaaGreatDoorXag
namespace Go.Proofs
open Go.DM
set_option linter.unusedSimpArgs false
set_option linter.unusedVariables false

/-! what the functions of the builder do, as functions -/
end Go.Proofs
/- The builder of lattices: from. Conditions: none. -/
namespace Go.Proofs
open Go.DM
set_option linter.unusedSimpArgs false
set_option linter.unusedVariables false

def delC (x : Input) (i m : Nat) : Int := delCost ((x.columns.take m).drop i) 0
def insN (ins : List Int) (i m cost : Int) (ops : List (Int × Int)) (n : Nat) : List Arc :=
  (List.range n).map fun (t : Nat) => ⟨2 * i, 2 * m, (t : Int), cost + ins.getD t 0, ops ++ [(3, (t : Int))]⟩
def readC (x : Input) (i m : Nat) : List Arc := readN (x.columns.getD m default).read i m (delC x i m) (dels (m - i)) (x.columns.getD m default).read.length
/-- The candidates from a state to a token boundary. -/
def cands (x : Input) (i m : Nat) : List Arc :=
  (if i < m then readC x i (m - 1) else []) ++ (insN x.insert i m (delC x i m) (dels (m - i)) x.insert.length ++
    (if swapOk x m then [⟨2 * i, 2 * m + 1, (x.columns.getD (m + 1) default).kind, delC x i m + x.swap, dels (m - i) ++ [(4, 0)]⟩] else []))
def fromN (x : Input) (i m : Nat) : List Arc := (List.range (m - i)).flatMap fun e => cands x i (i + e)
def fromL (x : Input) (i : Nat) : List Arc := fromN x i (x.columns.length + 1) ++ (if swapOk x i then [⟨2 * i + 1, 2 * i + 4, (x.columns.getD i default).kind, 0, []⟩] else [])
/-- Is the input one whose prices fit? -/
def inOk (x : Input) : Prop := delOk x.columns ∧ (∀ c ∈ x.columns, colOk c) ∧ x.insert.length ≤ 1000000 ∧ (∀ p ∈ x.insert, 0 ≤ p ∧ p ≤ 1099511627776) ∧ 0 ≤ x.swap ∧ x.swap ≤ 1099511627776

theorem delC_bound {x : Input} (h : delOk x.columns) (i m : Nat) : 0 ≤ delC x i m ∧ delC x i m ≤ 1099511627776 :=
  delCost_bound (fun c hc => (h.2 c (List.mem_of_mem_take (List.mem_of_mem_drop hc))).1) 0 (by omega)

end Go.Proofs
set_option maxRecDepth 100000

namespace Go.Proofs
open Go.DM

-- emendate/emendateref37.Build
def d14r0 : List RO := [
  ⟨.box (.tmp 0), (some 1), none, [], none⟩,
  ⟨.alloc [(.v (.int .i64 0)), .nil0, .nil0], (some 2), none, [], none⟩]
def d14r1 : List RO := [
  ⟨.addOff 0 (.tmp 1), (some 15), none, [], none⟩,
  ⟨.load 1 false (.tmp 15), (some 16), none, [0], none⟩,
  ⟨.len (.tmp 16), (some 17), none, [1], none⟩,
  ⟨.mov (.tmp 17), (some 3), none, [2, 0, 1, 2], none⟩]
def d14r2 : List RO := [
  ⟨.mov (.con .nil0), (some 4), none, [], none⟩]
def d14r3 : List RO := [
  ⟨.mov (.con (.v (.int .i64 0))), (some 5), none, [], none⟩]
def d14r4 : List RO := [
  ⟨.mov (.tmp 5), (some 18), none, [], none⟩,
  ⟨.mov (.tmp 3), (some 19), none, [], none⟩,
  ⟨.bin .leq (.tmp 18) (.tmp 19), (some 20), none, [0, 1], none⟩]
def d14r5 : List RO := [
  ⟨.mov (.tmp 5), (some 23), none, [], none⟩,
  ⟨.mov (.tmp 23), (some 6), none, [0, 0], none⟩]
def d14r6 : List RO := [
  ⟨.mov (.tmp 6), (some 24), none, [], none⟩,
  ⟨.mov (.tmp 3), (some 25), none, [], none⟩,
  ⟨.bin .leq (.tmp 24) (.tmp 25), (some 26), none, [0, 1], none⟩]
def d14r7 : List RO := [
  ⟨.load 3 true (.tmp 1), (some 29), none, [], none⟩,
  ⟨.mov (.tmp 5), (some 30), none, [], none⟩,
  ⟨.mov (.tmp 6), (some 31), none, [], none⟩,
  ⟨.call 26 [(.tmp 29), (.tmp 30), (.tmp 31)], (some 32), none, [0, 1, 2], none⟩,
  ⟨.mov (.tmp 32), (some 7), none, [3, 3, 0, 1, 2, 3], none⟩]
def d14r8 : List RO := [
  ⟨.mov (.con (.v (.int .i64 0))), (some 8), none, [], none⟩]
def d14r9 : List RO := [
  ⟨.mov (.tmp 8), (some 33), none, [], none⟩,
  ⟨.addOff 1 (.tmp 1), (some 34), none, [], none⟩,
  ⟨.load 1 false (.tmp 34), (some 35), none, [1], none⟩,
  ⟨.len (.tmp 35), (some 36), none, [2], none⟩,
  ⟨.bin .lss (.tmp 33) (.tmp 36), (some 37), none, [0, 3], none⟩]
def d14r10 : List RO := [
  ⟨.mov (.tmp 6), (some 40), none, [], none⟩,
  ⟨.mov (.tmp 3), (some 41), none, [], none⟩,
  ⟨.bin .lss (.tmp 40) (.tmp 41), (some 42), none, [0, 1], none⟩,
  ⟨.mov (.tmp 42), (some 43), none, [2], none⟩,
  ⟨.addOff 0 (.tmp 1), (some 44), (some (43, true)), [3], none⟩,
  ⟨.load 1 false (.tmp 44), (some 45), (some (43, true)), [4, 3], none⟩,
  ⟨.mov (.tmp 6), (some 46), (some (43, true)), [3], none⟩,
  ⟨.idxAddr 3 (.tmp 45) (.tmp 46), (some 47), (some (43, true)), [5, 6, 3], none⟩,
  ⟨.addOff 1 (.tmp 47), (some 48), (some (43, true)), [7, 3], none⟩,
  ⟨.load 1 false (.tmp 48), (some 49), (some (43, true)), [8, 3], none⟩,
  ⟨.mov (.tmp 8), (some 50), (some (43, true)), [3], none⟩,
  ⟨.idxAddr 1 (.tmp 49) (.tmp 50), (some 51), (some (43, true)), [9, 10, 3], none⟩,
  ⟨.load 1 false (.tmp 51), (some 52), (some (43, true)), [11, 3], none⟩,
  ⟨.bin .geq (.tmp 52) (.con (.v (.int .i64 0))), (some 53), (some (43, true)), [12, 3], none⟩,
  ⟨.pick (.tmp 43) (.tmp 53) (.con (.v (.bool false))), (some 54), none, [3, 13], none⟩]
def d14r11 : List RO := [
  ⟨.mov (.tmp 4), (some 55), none, [], none⟩,
  ⟨.mov (.tmp 5), (some 56), none, [], none⟩,
  ⟨.bin .mul (.con (.v (.int .i64 2))) (.tmp 56), (some 57), none, [1], none⟩,
  ⟨.mov (.tmp 6), (some 58), none, [], none⟩,
  ⟨.bin .mul (.con (.v (.int .i64 2))) (.tmp 58), (some 59), none, [3], none⟩,
  ⟨.bin .add (.tmp 59) (.con (.v (.int .i64 2))), (some 60), none, [4], none⟩,
  ⟨.mov (.tmp 8), (some 61), none, [], none⟩,
  ⟨.mov (.tmp 7), (some 62), none, [], none⟩,
  ⟨.addOff 0 (.tmp 1), (some 63), none, [], none⟩,
  ⟨.load 1 false (.tmp 63), (some 64), none, [8], none⟩,
  ⟨.mov (.tmp 6), (some 65), none, [], none⟩,
  ⟨.idxAddr 3 (.tmp 64) (.tmp 65), (some 66), none, [9, 10], none⟩,
  ⟨.addOff 1 (.tmp 66), (some 67), none, [11], none⟩,
  ⟨.load 1 false (.tmp 67), (some 68), none, [12], none⟩,
  ⟨.mov (.tmp 8), (some 69), none, [], none⟩,
  ⟨.idxAddr 1 (.tmp 68) (.tmp 69), (some 70), none, [13, 14], none⟩,
  ⟨.load 1 false (.tmp 70), (some 71), none, [15], none⟩,
  ⟨.call 28 [(.tmp 62), (.tmp 71)], (some 72), none, [7, 16], none⟩,
  ⟨.mov (.tmp 6), (some 73), none, [], none⟩,
  ⟨.mov (.tmp 5), (some 74), none, [], none⟩,
  ⟨.bin .sub (.tmp 73) (.tmp 74), (some 75), none, [18, 19], none⟩,
  ⟨.mov (.tmp 8), (some 76), none, [], none⟩,
  ⟨.build [(.v (.int .i64 0)), (.v (.int .i64 0))] [(0, 1, (.con (.v (.int .i64 1)))), (1, 1, (.tmp 76))], (some 77), none, [21], none⟩,
  ⟨.call 29 [(.tmp 75), (.tmp 77)], (some 78), none, [20, 22, 17], none⟩,
  ⟨.build [(.v (.int .i64 0)), (.v (.int .i64 0)), (.v (.int .i64 0)), (.v (.int .i64 0)), .nil0] [(0, 1, (.tmp 57)), (1, 1, (.tmp 60)), (2, 1, (.tmp 61)), (3, 1, (.tmp 72)), (4, 1, (.tmp 78))], (some 79), none, [2, 5, 6, 17, 23], none⟩,
  ⟨.call 27 [(.tmp 55), (.tmp 79)], (some 80), none, [0, 24, 23], none⟩,
  ⟨.mov (.tmp 80), (some 4), none, [25, 25, 0, 1, 2, 3, 4, 5, 6, 7, 8, 9, 10, 11, 12, 13, 14, 15, 16, 17, 18, 19, 20, 21, 22, 23, 24, 25], none⟩]
def d14r12 : List RO := [
  ⟨.mov (.tmp 8), (some 38), none, [], none⟩,
  ⟨.bin .add (.tmp 38) (.con (.v (.int .i64 1))), (some 39), none, [0], none⟩,
  ⟨.mov (.tmp 39), (some 8), none, [1, 0, 1], none⟩]
def d14r13 : List RO := [
  ⟨.load 3 true (.tmp 1), (some 81), none, [], none⟩,
  ⟨.mov (.tmp 6), (some 82), none, [], none⟩,
  ⟨.call 30 [(.tmp 81), (.tmp 82)], (some 83), none, [0, 1], none⟩]
def d14r14 : List RO := [
  ⟨.mov (.tmp 4), (some 84), none, [], none⟩,
  ⟨.mov (.tmp 5), (some 85), none, [], none⟩,
  ⟨.bin .mul (.con (.v (.int .i64 2))) (.tmp 85), (some 86), none, [1], none⟩,
  ⟨.mov (.tmp 6), (some 87), none, [], none⟩,
  ⟨.bin .mul (.con (.v (.int .i64 2))) (.tmp 87), (some 88), none, [3], none⟩,
  ⟨.bin .add (.tmp 88) (.con (.v (.int .i64 1))), (some 89), none, [4], none⟩,
  ⟨.addOff 0 (.tmp 1), (some 90), none, [], none⟩,
  ⟨.load 1 false (.tmp 90), (some 91), none, [6], none⟩,
  ⟨.mov (.tmp 6), (some 92), none, [], none⟩,
  ⟨.bin .add (.tmp 92) (.con (.v (.int .i64 1))), (some 93), none, [8], none⟩,
  ⟨.idxAddr 3 (.tmp 91) (.tmp 93), (some 94), none, [7, 9], none⟩,
  ⟨.addOff 0 (.tmp 94), (some 95), none, [10], none⟩,
  ⟨.load 1 false (.tmp 95), (some 96), none, [11], none⟩,
  ⟨.mov (.tmp 7), (some 97), none, [], none⟩,
  ⟨.addOff 2 (.tmp 1), (some 98), none, [], none⟩,
  ⟨.load 1 false (.tmp 98), (some 99), none, [14], none⟩,
  ⟨.call 28 [(.tmp 97), (.tmp 99)], (some 100), none, [13, 15], none⟩,
  ⟨.mov (.tmp 6), (some 101), none, [], none⟩,
  ⟨.mov (.tmp 5), (some 102), none, [], none⟩,
  ⟨.bin .sub (.tmp 101) (.tmp 102), (some 103), none, [17, 18], none⟩,
  ⟨.build [(.v (.int .i64 0)), (.v (.int .i64 0))] [(0, 1, (.con (.v (.int .i64 4))))], (some 104), none, [], none⟩,
  ⟨.call 29 [(.tmp 103), (.tmp 104)], (some 105), none, [19, 20, 16], none⟩,
  ⟨.build [(.v (.int .i64 0)), (.v (.int .i64 0)), (.v (.int .i64 0)), (.v (.int .i64 0)), .nil0] [(0, 1, (.tmp 86)), (1, 1, (.tmp 89)), (2, 1, (.tmp 96)), (3, 1, (.tmp 100)), (4, 1, (.tmp 105))], (some 106), none, [2, 5, 12, 16, 21], none⟩,
  ⟨.call 27 [(.tmp 84), (.tmp 106)], (some 107), none, [0, 22, 21], none⟩,
  ⟨.mov (.tmp 107), (some 4), none, [23, 23, 0, 1, 2, 3, 4, 5, 6, 7, 8, 9, 10, 11, 12, 13, 14, 15, 16, 17, 18, 19, 20, 21, 22, 23], none⟩]
def d14r15 : List RO := [
  ⟨.mov (.tmp 6), (some 27), none, [], none⟩,
  ⟨.bin .add (.tmp 27) (.con (.v (.int .i64 1))), (some 28), none, [0], none⟩,
  ⟨.mov (.tmp 28), (some 6), none, [1, 0, 1], none⟩]
def d14r16 : List RO := [
  ⟨.load 3 true (.tmp 1), (some 108), none, [], none⟩,
  ⟨.mov (.tmp 5), (some 109), none, [], none⟩,
  ⟨.call 30 [(.tmp 108), (.tmp 109)], (some 110), none, [0, 1], none⟩]
def d14r17 : List RO := [
  ⟨.mov (.tmp 4), (some 111), none, [], none⟩,
  ⟨.mov (.tmp 5), (some 112), none, [], none⟩,
  ⟨.bin .mul (.con (.v (.int .i64 2))) (.tmp 112), (some 113), none, [1], none⟩,
  ⟨.bin .add (.tmp 113) (.con (.v (.int .i64 1))), (some 114), none, [2], none⟩,
  ⟨.mov (.tmp 5), (some 115), none, [], none⟩,
  ⟨.bin .mul (.con (.v (.int .i64 2))) (.tmp 115), (some 116), none, [4], none⟩,
  ⟨.bin .add (.tmp 116) (.con (.v (.int .i64 4))), (some 117), none, [5], none⟩,
  ⟨.addOff 0 (.tmp 1), (some 118), none, [], none⟩,
  ⟨.load 1 false (.tmp 118), (some 119), none, [7], none⟩,
  ⟨.mov (.tmp 5), (some 120), none, [], none⟩,
  ⟨.idxAddr 3 (.tmp 119) (.tmp 120), (some 121), none, [8, 9], none⟩,
  ⟨.addOff 0 (.tmp 121), (some 122), none, [10], none⟩,
  ⟨.load 1 false (.tmp 122), (some 123), none, [11], none⟩,
  ⟨.build [(.v (.int .i64 0)), (.v (.int .i64 0)), (.v (.int .i64 0)), (.v (.int .i64 0)), .nil0] [(0, 1, (.tmp 114)), (1, 1, (.tmp 117)), (2, 1, (.tmp 123))], (some 124), none, [3, 6, 12], none⟩,
  ⟨.call 27 [(.tmp 111), (.tmp 124)], (some 125), none, [0, 13], none⟩,
  ⟨.mov (.tmp 125), (some 4), none, [14, 14, 0, 1, 2, 3, 4, 5, 6, 7, 8, 9, 10, 11, 12, 13, 14], none⟩]
def d14r18 : List RO := [
  ⟨.mov (.tmp 5), (some 21), none, [], none⟩,
  ⟨.bin .add (.tmp 21) (.con (.v (.int .i64 1))), (some 22), none, [0], none⟩,
  ⟨.mov (.tmp 22), (some 5), none, [1, 0, 1], none⟩]
def d14r19 : List RO := [
  ⟨.mov (.con (.v (.int .i64 0))), (some 9), none, [], none⟩]
def d14r20 : List RO := [
  ⟨.mov (.tmp 9), (some 126), none, [], none⟩,
  ⟨.mov (.tmp 3), (some 127), none, [], none⟩,
  ⟨.bin .leq (.tmp 126) (.tmp 127), (some 128), none, [0, 1], none⟩]
def d14r21 : List RO := [
  ⟨.mov (.tmp 9), (some 131), none, [], none⟩,
  ⟨.mov (.tmp 131), (some 10), none, [0, 0], none⟩]
def d14r22 : List RO := [
  ⟨.mov (.tmp 10), (some 132), none, [], none⟩,
  ⟨.mov (.tmp 3), (some 133), none, [], none⟩,
  ⟨.bin .leq (.tmp 132) (.tmp 133), (some 134), none, [0, 1], none⟩]
def d14r23 : List RO := [
  ⟨.mov (.con (.v (.int .i64 0))), (some 11), none, [], none⟩]
def d14r24 : List RO := [
  ⟨.mov (.tmp 11), (some 137), none, [], none⟩,
  ⟨.addOff 1 (.tmp 1), (some 138), none, [], none⟩,
  ⟨.load 1 false (.tmp 138), (some 139), none, [1], none⟩,
  ⟨.len (.tmp 139), (some 140), none, [2], none⟩,
  ⟨.bin .lss (.tmp 137) (.tmp 140), (some 141), none, [0, 3], none⟩]
def d14r25 : List RO := [
  ⟨.mov (.tmp 4), (some 144), none, [], none⟩,
  ⟨.mov (.tmp 9), (some 145), none, [], none⟩,
  ⟨.bin .mul (.con (.v (.int .i64 2))) (.tmp 145), (some 146), none, [1], none⟩,
  ⟨.mov (.tmp 10), (some 147), none, [], none⟩,
  ⟨.bin .mul (.con (.v (.int .i64 2))) (.tmp 147), (some 148), none, [3], none⟩,
  ⟨.mov (.tmp 11), (some 149), none, [], none⟩,
  ⟨.load 3 true (.tmp 1), (some 150), none, [], none⟩,
  ⟨.mov (.tmp 9), (some 151), none, [], none⟩,
  ⟨.mov (.tmp 10), (some 152), none, [], none⟩,
  ⟨.call 26 [(.tmp 150), (.tmp 151), (.tmp 152)], (some 153), none, [6, 7, 8], none⟩,
  ⟨.addOff 1 (.tmp 1), (some 154), none, [], none⟩,
  ⟨.load 1 false (.tmp 154), (some 155), none, [10], none⟩,
  ⟨.mov (.tmp 11), (some 156), none, [], none⟩,
  ⟨.idxAddr 1 (.tmp 155) (.tmp 156), (some 157), none, [11, 12], none⟩,
  ⟨.load 1 false (.tmp 157), (some 158), none, [13], none⟩,
  ⟨.call 28 [(.tmp 153), (.tmp 158)], (some 159), none, [9, 14, 9], none⟩,
  ⟨.mov (.tmp 10), (some 160), none, [], none⟩,
  ⟨.mov (.tmp 9), (some 161), none, [], none⟩,
  ⟨.bin .sub (.tmp 160) (.tmp 161), (some 162), none, [16, 17], none⟩,
  ⟨.mov (.tmp 11), (some 163), none, [], none⟩,
  ⟨.build [(.v (.int .i64 0)), (.v (.int .i64 0))] [(0, 1, (.con (.v (.int .i64 3)))), (1, 1, (.tmp 163))], (some 164), none, [19], none⟩,
  ⟨.call 29 [(.tmp 162), (.tmp 164)], (some 165), none, [18, 20, 15], none⟩,
  ⟨.build [(.v (.int .i64 0)), (.v (.int .i64 0)), (.v (.int .i64 0)), (.v (.int .i64 0)), .nil0] [(0, 1, (.tmp 146)), (1, 1, (.tmp 148)), (2, 1, (.tmp 149)), (3, 1, (.tmp 159)), (4, 1, (.tmp 165))], (some 166), none, [2, 4, 5, 15, 21], none⟩,
  ⟨.call 27 [(.tmp 144), (.tmp 166)], (some 167), none, [0, 22, 21], none⟩,
  ⟨.mov (.tmp 167), (some 4), none, [23, 23, 0, 1, 2, 3, 4, 5, 6, 7, 8, 9, 10, 11, 12, 13, 14, 15, 16, 17, 18, 19, 20, 21, 22, 23], none⟩]
def d14r26 : List RO := [
  ⟨.mov (.tmp 11), (some 142), none, [], none⟩,
  ⟨.bin .add (.tmp 142) (.con (.v (.int .i64 1))), (some 143), none, [0], none⟩,
  ⟨.mov (.tmp 143), (some 11), none, [1, 0, 1], none⟩]
def d14r27 : List RO := [
  ⟨.mov (.tmp 10), (some 135), none, [], none⟩,
  ⟨.bin .add (.tmp 135) (.con (.v (.int .i64 1))), (some 136), none, [0], none⟩,
  ⟨.mov (.tmp 136), (some 10), none, [1, 0, 1], none⟩]
def d14r28 : List RO := [
  ⟨.mov (.tmp 9), (some 129), none, [], none⟩,
  ⟨.bin .add (.tmp 129) (.con (.v (.int .i64 1))), (some 130), none, [0], none⟩,
  ⟨.mov (.tmp 130), (some 9), none, [1, 0, 1], none⟩]
def d14r29 : List RO := [
  ⟨.mov (.tmp 3), (some 168), none, [], none⟩,
  ⟨.bin .mul (.con (.v (.int .i64 2))) (.tmp 168), (some 169), none, [0], none⟩,
  ⟨.bin .add (.tmp 169) (.con (.v (.int .i64 1))), (some 170), none, [1], none⟩,
  ⟨.mov (.tmp 4), (some 171), none, [], none⟩,
  ⟨.build [(.v (.int .i64 0)), .nil0, .nil0] [(0, 1, (.tmp 170)), (1, 1, (.tmp 171))], (some 172), none, [2, 3], none⟩,
  ⟨.alloc [(.v (.int .i64 0)), .nil0, .nil0], (some 12), none, [], none⟩,
  ⟨.store 3 (.tmp 12) (.tmp 172), none, none, [5, 4, 0, 1, 2, 3, 4, 5], none⟩]
def d14r30 : List RO := [
  ⟨.mov (.tmp 3), (some 173), none, [], none⟩,
  ⟨.bin .mul (.con (.v (.int .i64 2))) (.tmp 173), (some 174), none, [0], none⟩,
  ⟨.bin .add (.tmp 174) (.con (.v (.int .i64 1))), (some 175), none, [1], none⟩,
  ⟨.mkSlice 3 1 8 [(.int .i64 0)] (.tmp 175), (some 176), none, [2, 2], none⟩,
  ⟨.mov (.tmp 176), (some 13), none, [3, 0, 1, 2, 3], none⟩]
def d14r31 : List RO := [
  ⟨.mov (.con (.v (.int .i64 0))), (some 14), none, [], none⟩]
def d14r32 : List RO := [
  ⟨.mov (.tmp 14), (some 177), none, [], none⟩,
  ⟨.mov (.tmp 13), (some 178), none, [], none⟩,
  ⟨.len (.tmp 178), (some 179), none, [1], none⟩,
  ⟨.bin .lss (.tmp 177) (.tmp 179), (some 180), none, [0, 2], none⟩]
def d14r33 : List RO := [
  ⟨.mov (.tmp 13), (some 183), none, [], none⟩,
  ⟨.mov (.tmp 14), (some 184), none, [], none⟩,
  ⟨.idxAddr 1 (.tmp 183) (.tmp 184), (some 185), none, [0, 1, 0, 1], none⟩,
  ⟨.store 1 (.tmp 185) (.con (.v (.int .i64 1099511627776))), none, none, [2, 0, 1], none⟩]
def d14r34 : List RO := [
  ⟨.mov (.tmp 14), (some 186), none, [], none⟩,
  ⟨.bin .rem (.tmp 186) (.con (.v (.int .i64 2))), (some 187), none, [0], none⟩,
  ⟨.bin .eql (.tmp 187) (.con (.v (.int .i64 0))), (some 188), none, [1], none⟩]
def d14r35 : List RO := [
  ⟨.mov (.tmp 13), (some 189), none, [], none⟩,
  ⟨.mov (.tmp 14), (some 190), none, [], none⟩,
  ⟨.load 3 true (.tmp 1), (some 191), none, [], none⟩,
  ⟨.mov (.tmp 14), (some 192), none, [], none⟩,
  ⟨.bin .quo (.tmp 192) (.con (.v (.int .i64 2))), (some 193), none, [3], none⟩,
  ⟨.mov (.tmp 3), (some 194), none, [], none⟩,
  ⟨.call 26 [(.tmp 191), (.tmp 193), (.tmp 194)], (some 195), none, [2, 4, 5], none⟩,
  ⟨.idxAddr 1 (.tmp 189) (.tmp 190), (some 196), none, [0, 1, 0, 1, 2, 3, 4, 5, 6], none⟩,
  ⟨.store 1 (.tmp 196) (.tmp 195), none, none, [7, 6, 6, 0, 1, 2, 3, 4, 5, 6], none⟩]
def d14r36 : List RO := [
  ⟨.mov (.tmp 14), (some 181), none, [], none⟩,
  ⟨.bin .add (.tmp 181) (.con (.v (.int .i64 1))), (some 182), none, [0], none⟩,
  ⟨.mov (.tmp 182), (some 14), none, [1, 0, 1], none⟩]
def d14r37 : List RO := [
  ⟨.mov (.tmp 13), (some 197), none, [], none⟩,
  ⟨.addOff 2 (.tmp 12), (some 198), none, [0], none⟩,
  ⟨.store 1 (.tmp 198) (.tmp 197), none, none, [1, 0, 0], none⟩]
def d14r38 : List RO := [
  ⟨.load 3 true (.tmp 12), (some 199), none, [], none⟩,
  ⟨.store 3 (.tmp 2) (.tmp 199), none, none, [0, 0], none⟩]
def d14 : DC := (.seq (.region false d14r0)
  (.seq (.region false d14r1)
  (.seq (.region false d14r2)
  (.seq (.seq (.region false d14r3)
  (.block 0 (.loop (.seq (.seq (.region false d14r4)
  (.cond (.tmp 20) .skip
  (.exit 0)))
  (.seq (.block 1 (.seq (.seq (.region false d14r5)
  (.block 2 (.loop (.seq (.seq (.region false d14r6)
  (.cond (.tmp 26) .skip
  (.exit 2)))
  (.seq (.block 3 (.seq (.region false d14r7)
  (.seq (.seq (.region false d14r8)
  (.block 4 (.loop (.seq (.seq (.region false d14r9)
  (.cond (.tmp 37) .skip
  (.exit 4)))
  (.seq (.block 5 (.seq (.region false d14r10)
  (.cond (.tmp 54) (.region false d14r11)
  .skip)))
  (.region false d14r12))))))
  (.seq (.region false d14r13)
  (.cond (.tmp 83) (.region true d14r14)
  .skip)))))
  (.region false d14r15))))))
  (.seq (.region false d14r16)
  (.cond (.tmp 110) (.region false d14r17)
  .skip))))
  (.region false d14r18))))))
  (.seq (.seq (.region false d14r19)
  (.block 6 (.loop (.seq (.seq (.region false d14r20)
  (.cond (.tmp 128) .skip
  (.exit 6)))
  (.seq (.block 7 (.seq (.region false d14r21)
  (.block 8 (.loop (.seq (.seq (.region false d14r22)
  (.cond (.tmp 134) .skip
  (.exit 8)))
  (.seq (.block 9 (.seq (.region false d14r23)
  (.block 10 (.loop (.seq (.seq (.region false d14r24)
  (.cond (.tmp 141) .skip
  (.exit 10)))
  (.seq (.block 11 (.region true d14r25))
  (.region false d14r26)))))))
  (.region false d14r27)))))))
  (.region false d14r28))))))
  (.seq (.region false d14r29)
  (.seq (.region false d14r30)
  (.seq (.seq (.region false d14r31)
  (.block 12 (.loop (.seq (.seq (.region false d14r32)
  (.cond (.tmp 180) .skip
  (.exit 12)))
  (.seq (.block 13 (.seq (.region false d14r33)
  (.seq (.region false d14r34)
  (.cond (.tmp 188) (.region false d14r35)
  .skip))))
  (.region false d14r36))))))
  (.seq (.region false d14r37)
  (.seq (.region false d14r38)
  .ret))))))))))
def d14res : List DRes := [.cell 2 3 true]
theorem c14 [Laid] : CodeOf Tryz.prog 12 200 d14 d14res := ⟨Tryz.f12, by kernel_rfl, by kernel_rfl, by kernel_rfl, by kernel_rfl, by kernel_rfl⟩
-- emendate/emendateref37.Deletion
def d34r0 : List RO := [
  ⟨.box (.tmp 0), (some 3), none, [], none⟩,
  ⟨.mov (.con (.v (.int .i64 0))), (some 6), none, [], none⟩]
def d34r1 : List RO := [
  ⟨.mov (.con (.v (.int .i64 0))), (some 7), none, [], none⟩]
def d34r2 : List RO := [
  ⟨.mov (.tmp 1), (some 9), none, [], none⟩,
  ⟨.mov (.tmp 9), (some 8), none, [0, 0], none⟩]
def d34r3 : List RO := [
  ⟨.mov (.tmp 8), (some 10), none, [], none⟩,
  ⟨.mov (.tmp 2), (some 11), none, [], none⟩,
  ⟨.bin .lss (.tmp 10) (.tmp 11), (some 12), none, [0, 1], none⟩]
def d34r4 : List RO := [
  ⟨.mov (.tmp 7), (some 15), none, [], none⟩,
  ⟨.addOff 0 (.tmp 3), (some 16), none, [], none⟩,
  ⟨.load 1 false (.tmp 16), (some 17), none, [1], none⟩,
  ⟨.mov (.tmp 8), (some 18), none, [], none⟩,
  ⟨.idxAddr 3 (.tmp 17) (.tmp 18), (some 19), none, [2, 3], none⟩,
  ⟨.addOff 2 (.tmp 19), (some 20), none, [4], none⟩,
  ⟨.load 1 false (.tmp 20), (some 21), none, [5], none⟩,
  ⟨.call 28 [(.tmp 15), (.tmp 21)], (some 22), none, [0, 6], none⟩,
  ⟨.mov (.tmp 22), (some 7), none, [7, 7, 0, 1, 2, 3, 4, 5, 6, 7], none⟩]
def d34r5 : List RO := [
  ⟨.mov (.tmp 8), (some 13), none, [], none⟩,
  ⟨.bin .add (.tmp 13) (.con (.v (.int .i64 1))), (some 14), none, [0], none⟩,
  ⟨.mov (.tmp 14), (some 8), none, [1, 0, 1], none⟩]
def d34r6 : List RO := [
  ⟨.mov (.tmp 7), (some 23), none, [], none⟩,
  ⟨.mov (.tmp 23), (some 6), none, [0, 0], none⟩]
def d34 : DC := (.seq (.region false d34r0)
  (.seq (.region false d34r1)
  (.seq (.seq (.region false d34r2)
  (.block 0 (.loop (.seq (.seq (.region false d34r3)
  (.cond (.tmp 12) .skip
  (.exit 0)))
  (.seq (.block 1 (.region false d34r4))
  (.region false d34r5))))))
  (.seq (.region false d34r6)
  .ret))))
def d34res : List DRes := [.slot 6]
theorem c34 [Laid] : CodeOf Tryz.prog 26 24 d34 d34res := ⟨Tryz.f26, by kernel_rfl, by kernel_rfl, by kernel_rfl, by kernel_rfl, by kernel_rfl⟩
-- emendate/emendateref37.put
def d35r0 : List RO := [
  ⟨.box (.tmp 1), (some 3), none, [], none⟩,
  ⟨.mov (.con .nil0), (some 4), none, [], none⟩]
def d35r1 : List RO := [
  ⟨.addOff 3 (.tmp 3), (some 8), none, [], none⟩,
  ⟨.load 1 false (.tmp 8), (some 9), none, [0], none⟩,
  ⟨.bin .geq (.tmp 9) (.con (.v (.int .i64 1099511627776))), (some 10), none, [1], none⟩]
def d35r2 : List RO := [
  ⟨.mov (.tmp 0), (some 11), none, [], none⟩,
  ⟨.mov (.tmp 11), (some 4), none, [0, 0], none⟩]
def d35r3 : List RO := [
  ⟨.mov (.con .nil0), (some 5), none, [], none⟩]
def d35r4 : List RO := [
  ⟨.mov (.con (.v (.bool false))), (some 6), none, [], none⟩]
def d35r5 : List RO := [
  ⟨.mov (.con (.v (.int .i64 0))), (some 7), none, [], none⟩]
def d35r6 : List RO := [
  ⟨.mov (.tmp 7), (some 12), none, [], none⟩,
  ⟨.mov (.tmp 0), (some 13), none, [], none⟩,
  ⟨.len (.tmp 13), (some 14), none, [1], none⟩,
  ⟨.bin .lss (.tmp 12) (.tmp 14), (some 15), none, [0, 2], none⟩]
def d35r7 : List RO := [
  ⟨.mov (.tmp 6), (some 18), none, [], none⟩,
  ⟨.un .not (.tmp 18), (some 19), none, [0], none⟩,
  ⟨.mov (.tmp 19), (some 20), none, [1], none⟩,
  ⟨.mov (.tmp 0), (some 21), (some (20, true)), [2], none⟩,
  ⟨.mov (.tmp 7), (some 22), (some (20, true)), [2], none⟩,
  ⟨.idxAddr 5 (.tmp 21) (.tmp 22), (some 23), (some (20, true)), [3, 4, 2], none⟩,
  ⟨.addOff 0 (.tmp 23), (some 24), (some (20, true)), [5, 2], none⟩,
  ⟨.load 1 false (.tmp 24), (some 25), (some (20, true)), [6, 2], none⟩,
  ⟨.addOff 0 (.tmp 3), (some 26), (some (20, true)), [2], none⟩,
  ⟨.load 1 false (.tmp 26), (some 27), (some (20, true)), [8, 2], none⟩,
  ⟨.bin .eql (.tmp 25) (.tmp 27), (some 28), (some (20, true)), [7, 9, 2], none⟩,
  ⟨.pick (.tmp 20) (.tmp 28) (.con (.v (.bool false))), (some 29), none, [2, 10], none⟩,
  ⟨.mov (.tmp 29), (some 30), none, [11, 2], none⟩,
  ⟨.mov (.tmp 0), (some 31), (some (30, true)), [12], none⟩,
  ⟨.mov (.tmp 7), (some 32), (some (30, true)), [12], none⟩,
  ⟨.idxAddr 5 (.tmp 31) (.tmp 32), (some 33), (some (30, true)), [13, 14, 12], none⟩,
  ⟨.addOff 1 (.tmp 33), (some 34), (some (30, true)), [15, 12], none⟩,
  ⟨.load 1 false (.tmp 34), (some 35), (some (30, true)), [16, 12], none⟩,
  ⟨.addOff 1 (.tmp 3), (some 36), (some (30, true)), [12], none⟩,
  ⟨.load 1 false (.tmp 36), (some 37), (some (30, true)), [18, 12], none⟩,
  ⟨.bin .eql (.tmp 35) (.tmp 37), (some 38), (some (30, true)), [17, 19, 12], none⟩,
  ⟨.pick (.tmp 30) (.tmp 38) (.con (.v (.bool false))), (some 39), none, [12, 20], none⟩,
  ⟨.mov (.tmp 39), (some 40), none, [21, 12], none⟩,
  ⟨.mov (.tmp 0), (some 41), (some (40, true)), [22], none⟩,
  ⟨.mov (.tmp 7), (some 42), (some (40, true)), [22], none⟩,
  ⟨.idxAddr 5 (.tmp 41) (.tmp 42), (some 43), (some (40, true)), [23, 24, 22], none⟩,
  ⟨.addOff 2 (.tmp 43), (some 44), (some (40, true)), [25, 22], none⟩,
  ⟨.load 1 false (.tmp 44), (some 45), (some (40, true)), [26, 22], none⟩,
  ⟨.addOff 2 (.tmp 3), (some 46), (some (40, true)), [22], none⟩,
  ⟨.load 1 false (.tmp 46), (some 47), (some (40, true)), [28, 22], none⟩,
  ⟨.bin .eql (.tmp 45) (.tmp 47), (some 48), (some (40, true)), [27, 29, 22], none⟩,
  ⟨.pick (.tmp 40) (.tmp 48) (.con (.v (.bool false))), (some 49), none, [22, 30], none⟩]
def d35r8 : List RO := [
  ⟨.mov (.con (.v (.bool true))), (some 6), none, [], none⟩]
def d35r9 : List RO := [
  ⟨.addOff 3 (.tmp 3), (some 50), none, [], none⟩,
  ⟨.load 1 false (.tmp 50), (some 51), none, [0], none⟩,
  ⟨.mov (.tmp 0), (some 52), none, [], none⟩,
  ⟨.mov (.tmp 7), (some 53), none, [], none⟩,
  ⟨.idxAddr 5 (.tmp 52) (.tmp 53), (some 54), none, [2, 3], none⟩,
  ⟨.addOff 3 (.tmp 54), (some 55), none, [4], none⟩,
  ⟨.load 1 false (.tmp 55), (some 56), none, [5], none⟩,
  ⟨.bin .lss (.tmp 51) (.tmp 56), (some 57), none, [1, 6], none⟩]
def d35r10 : List RO := [
  ⟨.mov (.tmp 5), (some 58), none, [], none⟩,
  ⟨.load 5 true (.tmp 3), (some 59), none, [], none⟩,
  ⟨.bslice 1 5 [(.v (.int .i64 0)), (.v (.int .i64 0)), (.v (.int .i64 0)), (.v (.int .i64 0)), .nil0] [(0, 5, (.tmp 59))], (some 60), none, [1], none⟩,
  ⟨.append 77 5 56 (.tmp 58) (.tmp 60), (some 61), none, [0, 2], none⟩,
  ⟨.mov (.tmp 61), (some 5), none, [3, 3, 0, 1, 2, 3], none⟩]
def d35r11 : List RO := [
  ⟨.mov (.tmp 6), (some 62), none, [], none⟩,
  ⟨.un .not (.tmp 62), (some 63), none, [0], none⟩,
  ⟨.mov (.tmp 63), (some 64), none, [1], none⟩,
  ⟨.load 5 true (.tmp 3), (some 65), (some (64, true)), [2], none⟩,
  ⟨.mov (.tmp 0), (some 66), (some (64, true)), [2], none⟩,
  ⟨.mov (.tmp 7), (some 67), (some (64, true)), [2], none⟩,
  ⟨.idxAddr 5 (.tmp 66) (.tmp 67), (some 68), (some (64, true)), [4, 5, 2], none⟩,
  ⟨.load 5 true (.tmp 68), (some 69), (some (64, true)), [6, 2], none⟩,
  ⟨.call 47 [(.tmp 65), (.tmp 69)], (some 70), (some (64, true)), [3, 7, 2, 2], none⟩,
  ⟨.pick (.tmp 64) (.tmp 70) (.con (.v (.bool false))), (some 71), none, [2, 8], none⟩]
def d35r12 : List RO := [
  ⟨.mov (.con (.v (.bool true))), (some 6), none, [], none⟩]
def d35r13 : List RO := [
  ⟨.mov (.tmp 5), (some 72), none, [], none⟩,
  ⟨.load 5 true (.tmp 3), (some 73), none, [], none⟩,
  ⟨.bslice 1 5 [(.v (.int .i64 0)), (.v (.int .i64 0)), (.v (.int .i64 0)), (.v (.int .i64 0)), .nil0] [(0, 5, (.tmp 73))], (some 74), none, [1], none⟩,
  ⟨.append 77 5 56 (.tmp 72) (.tmp 74), (some 75), none, [0, 2], none⟩,
  ⟨.mov (.tmp 75), (some 5), none, [3, 3, 0, 1, 2, 3], none⟩]
def d35r14 : List RO := [
  ⟨.mov (.tmp 5), (some 76), none, [], none⟩,
  ⟨.mov (.tmp 0), (some 77), none, [], none⟩,
  ⟨.mov (.tmp 7), (some 78), none, [], none⟩,
  ⟨.idxAddr 5 (.tmp 77) (.tmp 78), (some 79), none, [1, 2], none⟩,
  ⟨.load 5 true (.tmp 79), (some 80), none, [3], none⟩,
  ⟨.bslice 1 5 [(.v (.int .i64 0)), (.v (.int .i64 0)), (.v (.int .i64 0)), (.v (.int .i64 0)), .nil0] [(0, 5, (.tmp 80))], (some 81), none, [4], none⟩,
  ⟨.append 77 5 56 (.tmp 76) (.tmp 81), (some 82), none, [0, 5], none⟩,
  ⟨.mov (.tmp 82), (some 5), none, [6, 6, 0, 1, 2, 3, 4, 5, 6], none⟩]
def d35r15 : List RO := [
  ⟨.mov (.tmp 7), (some 16), none, [], none⟩,
  ⟨.bin .add (.tmp 16) (.con (.v (.int .i64 1))), (some 17), none, [0], none⟩,
  ⟨.mov (.tmp 17), (some 7), none, [1, 0, 1], none⟩]
def d35r16 : List RO := [
  ⟨.mov (.tmp 6), (some 83), none, [], none⟩,
  ⟨.un .not (.tmp 83), (some 84), none, [0], none⟩]
def d35r17 : List RO := [
  ⟨.mov (.tmp 5), (some 85), none, [], none⟩,
  ⟨.load 5 true (.tmp 3), (some 86), none, [], none⟩,
  ⟨.bslice 1 5 [(.v (.int .i64 0)), (.v (.int .i64 0)), (.v (.int .i64 0)), (.v (.int .i64 0)), .nil0] [(0, 5, (.tmp 86))], (some 87), none, [1], none⟩,
  ⟨.append 77 5 56 (.tmp 85) (.tmp 87), (some 88), none, [0, 2], none⟩,
  ⟨.mov (.tmp 88), (some 5), none, [3, 3, 0, 1, 2, 3], none⟩]
def d35r18 : List RO := [
  ⟨.mov (.tmp 5), (some 89), none, [], none⟩,
  ⟨.mov (.tmp 89), (some 4), none, [0, 0], none⟩]
def d35 : DC := (.seq (.region false d35r0)
  (.seq (.seq (.region false d35r1)
  (.cond (.tmp 10) (.seq (.region false d35r2)
  .ret)
  .skip))
  (.seq (.region false d35r3)
  (.seq (.region false d35r4)
  (.seq (.seq (.region false d35r5)
  (.block 0 (.loop (.seq (.seq (.region false d35r6)
  (.cond (.tmp 15) .skip
  (.exit 0)))
  (.seq (.block 1 (.seq (.seq (.region true d35r7)
  (.cond (.tmp 49) (.seq (.region false d35r8)
  (.seq (.region true d35r9)
  (.cond (.tmp 57) (.seq (.region false d35r10)
  (.exit 1))
  .skip)))
  .skip))
  (.seq (.seq (.region true d35r11)
  (.cond (.tmp 71) (.seq (.region false d35r12)
  (.region false d35r13))
  .skip))
  (.region false d35r14))))
  (.region false d35r15))))))
  (.seq (.seq (.region false d35r16)
  (.cond (.tmp 84) (.region false d35r17)
  .skip))
  (.seq (.region false d35r18)
  .ret)))))))
def d35res : List DRes := [.slot 4]
theorem c35 [Laid] : CodeOf Tryz.prog 27 90 d35 d35res := ⟨Tryz.f27, by kernel_rfl, by kernel_rfl, by kernel_rfl, by kernel_rfl, by kernel_rfl⟩
-- emendate/emendateref37.deletes
def d37r0 : List RO := [
  ⟨.box (.tmp 1), (some 3), none, [], none⟩,
  ⟨.mov (.con .nil0), (some 4), none, [], none⟩]
def d37r1 : List RO := [
  ⟨.mov (.con .nil0), (some 5), none, [], none⟩]
def d37r2 : List RO := [
  ⟨.mov (.con (.v (.int .i64 0))), (some 6), none, [], none⟩]
def d37r3 : List RO := [
  ⟨.mov (.tmp 6), (some 7), none, [], none⟩,
  ⟨.mov (.tmp 0), (some 8), none, [], none⟩,
  ⟨.bin .lss (.tmp 7) (.tmp 8), (some 9), none, [0, 1], none⟩]
def d37r4 : List RO := [
  ⟨.mov (.tmp 5), (some 12), none, [], none⟩,
  ⟨.build [(.v (.int .i64 0)), (.v (.int .i64 0))] [(0, 1, (.con (.v (.int .i64 2))))], (some 13), none, [], none⟩,
  ⟨.bslice 1 2 [(.v (.int .i64 0)), (.v (.int .i64 0))] [(0, 2, (.tmp 13))], (some 14), none, [1], none⟩,
  ⟨.append 75 2 16 (.tmp 12) (.tmp 14), (some 15), none, [0, 2], none⟩,
  ⟨.mov (.tmp 15), (some 5), none, [3, 3, 0, 1, 2, 3], none⟩]
def d37r5 : List RO := [
  ⟨.mov (.tmp 6), (some 10), none, [], none⟩,
  ⟨.bin .add (.tmp 10) (.con (.v (.int .i64 1))), (some 11), none, [0], none⟩,
  ⟨.mov (.tmp 11), (some 6), none, [1, 0, 1], none⟩]
def d37r6 : List RO := [
  ⟨.mov (.tmp 5), (some 16), none, [], none⟩,
  ⟨.load 2 true (.tmp 3), (some 17), none, [], none⟩,
  ⟨.bslice 1 2 [(.v (.int .i64 0)), (.v (.int .i64 0))] [(0, 2, (.tmp 17))], (some 18), none, [1], none⟩,
  ⟨.append 75 2 16 (.tmp 16) (.tmp 18), (some 19), none, [0, 2], none⟩,
  ⟨.mov (.tmp 19), (some 4), none, [3, 3, 0, 1, 2, 3], none⟩]
def d37 : DC := (.seq (.region false d37r0)
  (.seq (.region false d37r1)
  (.seq (.seq (.region false d37r2)
  (.block 0 (.loop (.seq (.seq (.region false d37r3)
  (.cond (.tmp 9) .skip
  (.exit 0)))
  (.seq (.block 1 (.region false d37r4))
  (.region false d37r5))))))
  (.seq (.region false d37r6)
  .ret))))
def d37res : List DRes := [.slot 4]
theorem c37 [Laid] : CodeOf Tryz.prog 29 20 d37 d37res := ⟨Tryz.f29, by kernel_rfl, by kernel_rfl, by kernel_rfl, by kernel_rfl, by kernel_rfl⟩
-- emendate/emendateref37.Swappable
def d38r0 : List RO := [
  ⟨.box (.tmp 0), (some 2), none, [], none⟩,
  ⟨.mov (.con (.v (.bool false))), (some 4), none, [], none⟩]
def d38r1 : List RO := [
  ⟨.mov (.tmp 1), (some 5), none, [], none⟩,
  ⟨.bin .add (.tmp 5) (.con (.v (.int .i64 1))), (some 6), none, [0], none⟩,
  ⟨.addOff 0 (.tmp 2), (some 7), none, [], none⟩,
  ⟨.load 1 false (.tmp 7), (some 8), none, [2], none⟩,
  ⟨.len (.tmp 8), (some 9), none, [3], none⟩,
  ⟨.bin .lss (.tmp 6) (.tmp 9), (some 10), none, [1, 4], none⟩,
  ⟨.mov (.tmp 10), (some 11), none, [5], none⟩,
  ⟨.addOff 2 (.tmp 2), (some 12), (some (11, true)), [6], none⟩,
  ⟨.load 1 false (.tmp 12), (some 13), (some (11, true)), [7, 6], none⟩,
  ⟨.bin .gtr (.tmp 13) (.con (.v (.int .i64 0))), (some 14), (some (11, true)), [8, 6], none⟩,
  ⟨.pick (.tmp 11) (.tmp 14) (.con (.v (.bool false))), (some 15), none, [6, 9], none⟩,
  ⟨.mov (.tmp 15), (some 16), none, [10, 6], none⟩,
  ⟨.addOff 0 (.tmp 2), (some 17), (some (16, true)), [11], none⟩,
  ⟨.load 1 false (.tmp 17), (some 18), (some (16, true)), [12, 11], none⟩,
  ⟨.mov (.tmp 1), (some 19), (some (16, true)), [11], none⟩,
  ⟨.idxAddr 3 (.tmp 18) (.tmp 19), (some 20), (some (16, true)), [13, 14, 11], none⟩,
  ⟨.addOff 0 (.tmp 20), (some 21), (some (16, true)), [15, 11], none⟩,
  ⟨.load 1 false (.tmp 21), (some 22), (some (16, true)), [16, 11], none⟩,
  ⟨.bin .geq (.tmp 22) (.con (.v (.int .i64 0))), (some 23), (some (16, true)), [17, 11], none⟩,
  ⟨.pick (.tmp 16) (.tmp 23) (.con (.v (.bool false))), (some 24), none, [11, 18], none⟩,
  ⟨.mov (.tmp 24), (some 25), none, [19, 11], none⟩,
  ⟨.addOff 0 (.tmp 2), (some 26), (some (25, true)), [20], none⟩,
  ⟨.load 1 false (.tmp 26), (some 27), (some (25, true)), [21, 20], none⟩,
  ⟨.mov (.tmp 1), (some 28), (some (25, true)), [20], none⟩,
  ⟨.bin .add (.tmp 28) (.con (.v (.int .i64 1))), (some 29), (some (25, true)), [23, 20], none⟩,
  ⟨.idxAddr 3 (.tmp 27) (.tmp 29), (some 30), (some (25, true)), [22, 24, 20], none⟩,
  ⟨.addOff 0 (.tmp 30), (some 31), (some (25, true)), [25, 20], none⟩,
  ⟨.load 1 false (.tmp 31), (some 32), (some (25, true)), [26, 20], none⟩,
  ⟨.bin .geq (.tmp 32) (.con (.v (.int .i64 0))), (some 33), (some (25, true)), [27, 20], none⟩,
  ⟨.pick (.tmp 25) (.tmp 33) (.con (.v (.bool false))), (some 34), none, [20, 28], none⟩,
  ⟨.mov (.tmp 34), (some 4), none, [29, 20, 0, 1, 2, 3, 4, 5, 6, 7, 8, 9, 10, 11, 12, 13, 14, 15, 16, 17, 18, 19, 20, 21, 22, 23, 24, 25, 26, 27, 28, 29], none⟩]
def d38 : DC := (.seq (.region false d38r0)
  (.seq (.region false d38r1)
  .ret))
def d38res : List DRes := [.slot 4]
theorem c38 [Laid] : CodeOf Tryz.prog 30 35 d38 d38res := ⟨Tryz.f30, by kernel_rfl, by kernel_rfl, by kernel_rfl, by kernel_rfl, by kernel_rfl⟩

end Go.Proofs
/- The reference's builder: parts. Conditions: none. -/
namespace Go.Proofs
open Go.DM
set_option linter.unusedSimpArgs false
set_option linter.unusedVariables false

theorem satA_del {c d : Int} (hc : 0 ≤ c ∧ c ≤ 1099511627776) (hd : 0 ≤ d) : satA c d = min (c + d) 1099511627776 := by
  unfold satA; split <;> omega
theorem t34 (x : Input) (i m : Nat) (him : i ≤ m) (hm : m ≤ x.columns.length) (hd : delOk x.columns) : CallsOk Tryz.prog 26 [x.enc, ti i, ti m] (ti (delC x i m)) := by
  have hΓ := ok36
  obtain ⟨part, hpart⟩ : ∃ p, (x.columns.take m).drop i = p := ⟨_, rfl⟩
  have hpl : part.length = m - i := by rw [← hpart]; simp; omega
  have hpd : ∀ c ∈ part, 0 ≤ c.delete ∧ c.delete ≤ 1099511627776 := fun c hc => hd.2 c (by rw [← hpart] at hc; exact List.mem_of_mem_take (List.mem_of_mem_drop hc))
  have hpg : ∀ k, i + k < m → part.getD k default = x.columns.getD (i + k) default := by
    intro k hk
    rw [← hpart]
    have : i + k < x.columns.length := by omega
    simp [List.getD, List.getElem?_drop, List.getElem?_take, hk]
  have hlen := hd.1
  unfold delC
  rw [hpart]
  refine c34.ok (by simp) (initSt_sat ?_)
  simp [Input.enc]
  refine SatD.regSeq hΓ follows [1, 2, 3] ?_
  simp [d34r0]
  refine SatD.le (Le.keep (o := []) (l := [(1, .v (ti i)), (2, .v (ti m)), (3, .v (.box [.sl (colsT x.columns), .sl (intsT x.insert), ti x.swap]))]) (nxt' := 1200) ?_ ?_ ?_ ?_) ?_
  · simp
  · simp
  · simp
  · simp
  refine SatD.regSeq hΓ follows [1, 2, 3, 7] ?_
  simp [d34r1]
  refine SatD.seq ?_
  refine SatD.regSeq hΓ follows [2, 3, 7, 8] ?_
  simp [d34r2]
  refine SatD.block ?_
  refine SatD.loop (fun y : Nat => ⟨DM.look [(2, .v (ti m)), (3, .v (.box [.sl (colsT x.columns), .sl (intsT x.insert), ti x.swap])), (7, .v (ti (delCost (part.take y) 0))), (8, .v (ti ((i + y : Nat) : Int)))], obs [], 2000, 1000, []⟩)
    (fun y => y ≤ part.length) (fun y => part.length - y) 0 (Le.keep (o := []) ?_ ?_ ?_ ?_) (by simp) (fun y hy => ?_)
  · simp
  · simp
  · simp
  · simp [delCost]
  obtain ⟨k, hk⟩ : ∃ k, i + y = k := ⟨_, rfl⟩
  rw [hk]
  have hbd := delCost_bound (l := part.take y) (fun c hc => (hpd c (List.mem_of_mem_take hc)).1) 0 (by omega)
  refine SatD.seq ?_
  refine SatD.regSeq hΓ follows [2, 3, 7, 8, 12] ?_
  simp [d34r3]
  refine SatD.cond rfl (fun hcc => ?_) (fun hcc => ?_)
  · simp at hcc
    have hyp : y < part.length := by omega
    have hkl : k < x.columns.length := by omega
    have hr := rowAt_cols hkl
    have hg := hpg y (by omega)
    rw [hk] at hg
    obtain ⟨c, hc⟩ : ∃ c, x.columns.getD k default = c := ⟨_, rfl⟩
    rw [hc] at hr hg
    have hpy : part[y] = c := by simpa [List.getD, hyp] using hg
    have hcd := hpd c (by rw [← hpy]; exact List.getElem_mem hyp)
    have htk : part.take (y + 1) = part.take y ++ [c] := by rw [List.take_add_one, List.getElem?_eq_getElem hyp, hpy]; rfl
    obtain ⟨u, hu⟩ : ∃ u, delCost (part.take y) 0 = u := ⟨_, rfl⟩
    rw [hu] at hbd ⊢
    refine SatD.skip ?_
    simp
    refine SatD.seq ?_
    refine SatD.block ?_
    refine SatD.reg hΓ follows [2, 3, 7, 8] ?_
    simp [d34r4, hkl, hr, Column.enc]
    refine ⟨⟨u, c.delete, ⟨rfl, rfl⟩, by omega, by omega⟩, ?_⟩
    refine SatD.reg hΓ follows [2, 3, 7, 8] ?_
    simp [d34r5]
    rw [wrap_id (by omega)]
    refine ⟨y + 1, Le.keep (o := []) ?_ ?_ ?_ ?_, by omega, by omega⟩
    · simp
    · simp
    · simp
    · simp [htk, delCost_snoc, hu, satA_del hbd hcd.1]
      omega
  · simp at hcc
    have hyl : y = part.length := by omega
    subst hyl
    refine SatD.exit ?_
    simp
    refine SatD.regSeq hΓ follows [6] ?_
    simp [d34r6]
    refine SatD.ret ?_
    simp [d34res]

set_option maxRecDepth 20000 in
theorem t38 (x : Input) (m : Nat) (hm : m ≤ 1000000) (hl : x.columns.length ≤ 1000000) : CallsOk Tryz.prog 30 [x.enc, ti m] (.bool (swapOk x m)) := by
  have hΓ := okE
  obtain ⟨v, hv⟩ : ∃ v, swapOk x m = v := ⟨_, rfl⟩
  rw [hv]
  refine c38.ok (by simp) (initSt_sat ?_)
  simp [Input.enc]
  refine SatD.regSeq hΓ follows [1, 2] ?_
  simp [d38r0]
  refine SatD.le (Le.keep (o := []) (l := [(1, .v (ti m)), (2, .v (.box [.sl (colsT x.columns), .sl (intsT x.insert), ti x.swap]))]) (nxt' := 1200) ?_ ?_ ?_ ?_) ?_
  · simp
  · simp
  · simp
  · simp
  have hw : IntKind.i64.wrap ((m : Int) + 1) = m + 1 := wrap_id (by omega)
  refine SatD.regToS hΓ follows [(4, .v (.bool v))] ?_ ?_
  · by_cases h1 : m + 1 < x.columns.length
    · have hr1 := rowAt_cols (l := x.columns) (y := m) (by omega)
      have hr2 : DM.rowAt (colsT x.columns) ((m : Int) + 1) = (x.columns.getD (m + 1) default).enc := rowAt_cols (l := x.columns) h1
      obtain ⟨c1, hc1⟩ : ∃ c, x.columns.getD m default = c := ⟨_, rfl⟩
      obtain ⟨c2, hc2⟩ : ∃ c, x.columns.getD (m + 1) default = c := ⟨_, rfl⟩
      rw [hc1] at hr1
      rw [hc2] at hr2
      have hd1 : ((m : Int) + 1 < x.columns.length) = True := by simp; omega
      have hd3 : (0 ≤ (m : Int) + 1) = True := by simp; omega
      have hd4 : m < x.columns.length := by omega
      have hsw : v = (decide (0 < x.swap) && (decide (0 ≤ c1.kind) && decide (0 ≤ c2.kind))) := by
        rw [← hv]
        unfold swapOk
        rw [hc1, hc2]
        simp [h1]
      by_cases s1 : 0 < x.swap <;> by_cases s2 : 0 ≤ c1.kind <;> by_cases s3 : 0 ≤ c2.kind <;> simp [d38r1, hw, hr1, hr2, hd1, hd3, hd4, Column.enc, s1, s2, s3, hsw]
    · have hd1 : ((m : Int) + 1 < x.columns.length) = False := by simp; omega
      have hsw : v = false := by rw [← hv]; simp [swapOk]; intros; omega
      simp [d38r1, hw, hd1, hsw]
  refine SatD.ret ?_
  simp [d38res]

theorem t37 (n : Nat) (a b : Int) (hn : n ≤ 1000000) : CallsOk Tryz.prog 29 [ti n, .agg [ti a, ti b]] (.sl (opsT (dels n ++ [(a, b)]))) := by
  have hΓ := okE
  refine c37.ok (by simp) (initSt_sat ?_)
  simp
  refine SatD.regSeq hΓ follows [0, 3] ?_
  simp [d37r0]
  refine SatD.regSeq hΓ follows [0, 3, 5] ?_
  simp [d37r1]
  refine SatD.seq ?_
  refine SatD.le (Le.keep (o := []) (l := [(0, .v (ti n)), (3, .v (.box [ti a, ti b])), (5, .nil0)]) (nxt' := 1200) ?_ ?_ ?_ ?_) ?_
  · simp
  · simp
  · simp
  · simp
  refine SatD.le (Le.nilSlot (k := 5) 75 (sz := 2) (by omega) (by simp)) ?_
  rw [obs_setO]
  refine SatD.regSeq hΓ follows [0, 3, 5, 6] ?_
  simp [d37r2]
  refine SatD.block ?_
  refine SatD.loop (fun y : Nat => ⟨DM.look [(0, .v (ti n)), (3, .v (.box [ti a, ti b])), (5, .aref 1200 0), (6, .v (ti y))], obs [(1200, .arr 0 75 2 (opsT (dels y)))], 2000, 1000, []⟩)
    (fun y => y ≤ n) (fun y => n - y) 0 (Le.keep ?_ ?_ ?_ ?_) (by simp) (fun y hy => ?_)
  · simp
  · simp
  · simp [dels, opsT]
  · simp
  refine SatD.seq ?_
  refine SatD.regSeq hΓ follows [0, 3, 5, 6, 9] ?_
  simp [d37r3]
  have hd : (dels y).length = y := by simp [dels]
  refine SatD.cond rfl (fun hcc => ?_) (fun hcc => ?_)
  · simp at hcc
    refine SatD.skip ?_
    simp
    refine SatD.seq ?_
    refine SatD.block ?_
    refine SatD.reg hΓ follows [0, 3, 5, 6] ?_
    simp [d37r4, roomOk, chunk, hd]
    refine ⟨by omega, ?_⟩
    refine SatD.reg hΓ follows [0, 3, 5, 6] ?_
    simp [d37r5]
    rw [wrap_id (by omega)]
    refine ⟨y + 1, Le.keep ?_ ?_ ?_ ?_, by omega, by omega⟩
    · simp
    · simp
    · simp [opsT, dels, List.replicate_succ']
    · simp
  · simp at hcc
    have hyl : y = n := by omega
    subst hyl
    refine SatD.exit ?_
    simp
    refine SatD.regSeq hΓ follows [4] ?_
    simp [d37r6, roomOk, chunk, hd]
    refine ⟨by omega, ?_⟩
    refine SatD.ret ?_
    simp [d37res, opsT]
end Go.Proofs
/- The reference's builder: put. Conditions: none. -/
namespace Go.Proofs
open Go.DM
set_option linter.unusedSimpArgs false
set_option linter.unusedVariables false

def putStep (a : Arc) (p : Bool × List Arc) (b : Arc) : Bool × List Arc :=
  if p.1 = false ∧ sameKey b a = true then (true, p.2 ++ [if a.cost < b.cost then a else b])
  else if p.1 = false ∧ before a b then (true, p.2 ++ [a] ++ [b])
  else (p.1, p.2 ++ [b])
def putFold (a : Arc) (l : List Arc) : Bool × List Arc := l.foldl (putStep a) (false, [])
/-- One candidate more, in order. -/
def putL (l : List Arc) (a : Arc) : List Arc :=
  if 1099511627776 ≤ a.cost then l else if (putFold a l).1 then (putFold a l).2 else (putFold a l).2 ++ [a]
theorem putFold_succ {a : Arc} {l : List Arc} {y : Nat} (h : y < l.length) : putFold a (l.take (y + 1)) = putStep a (putFold a (l.take y)) (l.getD y default) := by
  unfold putFold
  rw [List.take_add_one, List.getElem?_eq_getElem h, List.foldl_append]
  simp [List.getD, h]
theorem putStep_len (a : Arc) (p : Bool × List Arc) (b : Arc) : (putStep a p b).2.length ≤ p.2.length + 2 := by
  unfold putStep
  split
  · simp
  · split <;> simp
theorem arcsT_snoc (l : List Arc) (a : Arc) : arcsT (l ++ [a]) = arcsT l ++ [a.enc] := by simp [arcsT]

set_option maxRecDepth 20000 in
set_option maxHeartbeats 8000000 in
theorem t35 (l : List Arc) (a : Arc) (hl : l.length ≤ 1000000000) : CallsOk Tryz.prog 27 [.sl (arcsT l), .agg a.enc] (.sl (arcsT (putL l a))) := by
  have hΓ := ok39
  obtain ⟨R, hR⟩ : ∃ R, putL l a = R := ⟨_, rfl⟩
  rw [hR]
  unfold putL at hR
  obtain ⟨af, at', ax, ac, ao⟩ := a
  obtain ⟨a, ha⟩ : ∃ a : Arc, (⟨af, at', ax, ac, ao⟩ : Arc) = a := ⟨_, rfl⟩
  have haf : a.f = af := by rw [← ha]
  have hat : a.t = at' := by rw [← ha]
  have hax : a.term = ax := by rw [← ha]
  have hac : a.cost = ac := by rw [← ha]
  have henc : a.enc = [ti af, ti at', ti ax, ti ac, .sl (opsT ao)] := by rw [← ha]; rfl
  refine c35.ok (by simp) (initSt_sat ?_)
  rw [ha] at hR
  simp [Arc.enc]
  refine SatD.regSeq hΓ follows [0, 3] ?_
  simp [d35r0]
  refine SatD.le (Le.keep (o := []) (l := [(0, .v (.sl (arcsT l))), (3, .v (.box [ti af, ti at', ti ax, ti ac, .sl (opsT ao)]))]) (nxt' := 1200) ?_ ?_ ?_ ?_) ?_
  · simp
  · simp
  · simp
  · simp
  refine SatD.seq ?_
  refine SatD.regSeq hΓ follows [0, 3, 10] ?_
  simp [d35r1]
  refine SatD.cond rfl (fun h => ?_) (fun h => ?_)
  · simp at h
    rw [if_pos (by rw [hac]; exact h)] at hR
    subst hR
    refine SatD.regSeq hΓ follows [4] ?_
    simp [d35r2]
    refine SatD.ret ?_
    simp [d35res]
  simp at h
  rw [if_neg (by rw [hac]; omega)] at hR
  refine SatD.skip ?_
  simp
  refine SatD.regSeq hΓ follows [0, 3, 5] ?_
  simp [d35r3]
  refine SatD.le (Le.keep (o := []) (l := [(0, .v (.sl (arcsT l))), (3, .v (.box [ti af, ti at', ti ax, ti ac, .sl (opsT ao)])), (5, .nil0)]) (nxt' := 1500) ?_ ?_ ?_ ?_) ?_
  · simp
  · simp
  · simp
  · simp
  refine SatD.le (Le.nilSlot (k := 5) 77 (sz := 5) (by omega) (by simp)) ?_
  rw [obs_setO]
  refine SatD.regSeq hΓ follows [0, 3, 5, 6] ?_
  simp [d35r4]
  refine SatD.seq ?_
  refine SatD.regSeq hΓ follows [0, 3, 5, 6, 7] ?_
  simp [d35r5]
  obtain ⟨L, hL⟩ : ∃ L, l.length = L := ⟨_, rfl⟩
  rw [hL] at hl
  refine SatD.block ?_
  refine SatD.loop (fun y : Nat => ⟨DM.look [(0, .v (.sl (arcsT l))), (3, .v (.box [ti af, ti at', ti ax, ti ac, .sl (opsT ao)])), (5, .aref 1500 0), (6, .v (.bool (putFold a (l.take y)).1)), (7, .v (ti y))], obs [(1500, .arr 0 77 5 (arcsT (putFold a (l.take y)).2))], 2000, 1000, []⟩)
    (fun y => y ≤ L ∧ (putFold a (l.take y)).2.length ≤ 2 * y) (fun y => L - y) 0 (Le.keep ?_ ?_ ?_ ?_) (by simp [putFold]) (fun y hy => ?_)
  · simp
  · simp
  · simp [putFold, arcsT]
  · simp [putFold]
  obtain ⟨hy1, hy2⟩ := hy
  refine SatD.seq ?_
  refine SatD.regSeq hΓ follows [0, 3, 5, 6, 7, 15] ?_
  simp [d35r6, hL]
  refine SatD.cond rfl (fun hcc => ?_) (fun hcc => ?_)
  · simp at hcc
    have hyl : y < l.length := by omega
    have hr := rowAt_arcs hyl
    have hsucc := putFold_succ (a := a) hyl
    obtain ⟨b, hb⟩ : ∃ b, l.getD y default = b := ⟨_, rfl⟩
    rw [hb] at hr hsucc
    obtain ⟨p, hp⟩ : ∃ p, putFold a (l.take y) = p := ⟨_, rfl⟩
    rw [hp] at hsucc hy2 ⊢
    have hlen2 := putStep_len a p b
    obtain ⟨dn, out⟩ := p
    simp only at hy2 hlen2 ⊢
    obtain ⟨bf, bt, bx, bc, bo⟩ := b
    have hsk : sameKey ⟨bf, bt, bx, bc, bo⟩ a = decide (bf = af ∧ bt = at' ∧ bx = ax) := by simp only [sameKey, haf, hat, hax]
    refine SatD.skip ?_
    simp
    refine SatD.seq ?_
    obtain ⟨q, hq⟩ : ∃ q, putStep a (dn, out) ⟨bf, bt, bx, bc, bo⟩ = q := ⟨_, rfl⟩
    rw [hq] at hsucc hlen2
    unfold putStep at hq
    simp only [hsk] at hq
    refine SatD.to ⟨DM.look [(0, .v (.sl (arcsT l))), (3, .v (.box [ti af, ti at', ti ax, ti ac, .sl (opsT ao)])), (5, .aref 1500 0), (6, .v (.bool q.1)), (7, .v (ti y))], obs [(1500, .arr 0 77 5 (arcsT q.2))], 3000, 1000, []⟩ ?_ ?_
    · refine SatD.block ?_
      refine SatD.seq ?_
      have hprow : [ti bf, ti bt, ti bx, ti bc, .sl (opsT bo)] = (⟨bf, bt, bx, bc, bo⟩ : Arc).enc := rfl
      obtain ⟨c1, hc1⟩ : ∃ c : Bool, decide (dn = false ∧ (bf = af ∧ bt = at' ∧ bx = ax)) = c := ⟨_, rfl⟩
      refine SatD.regToS hΓ follows [(0, .v (.sl (arcsT l))), (3, .v (.box [ti af, ti at', ti ax, ti ac, .sl (opsT ao)])), (5, .aref 1500 0), (6, .v (.bool dn)), (7, .v (ti y)), (49, .v (.bool c1))] ?_ ?_
      · cases dn with
        | true =>
          have : c1 = false := by rw [← hc1]; simp
          simp [d35r7, this]
        | false =>
          by_cases q1 : bf = af
          · by_cases q2 : bt = at'
            · by_cases q3 : bx = ax
              · have : c1 = true := by rw [← hc1]; simp [q1, q2, q3]
                simp [d35r7, hr, hcc, hL, Arc.enc, q1, q2, q3, this]
              · have : c1 = false := by rw [← hc1]; simp [q3]
                simp [d35r7, hr, hcc, hL, Arc.enc, q1, q2, q3, this]
            · have : c1 = false := by rw [← hc1]; simp [q2]
              simp [d35r7, hr, hcc, hL, Arc.enc, q1, q2, this]
          · have : c1 = false := by rw [← hc1]; simp [q1]
            simp [d35r7, hr, hcc, hL, Arc.enc, q1, this]
      -- the last append
      have tail : ∀ (dn' : Bool) (out' : List Arc), out'.length ≤ out.length + 1 → q = (dn', out' ++ [⟨bf, bt, bx, bc, bo⟩]) → ∀ nx, SatD Tryz.prog 90 (.region false d35r14) (blockQ 1 fun e s => e = Exit.normal ∧ Le s ⟨DM.look [(0, .v (.sl (arcsT l))), (3, .v (.box [ti af, ti at', ti ax, ti ac, .sl (opsT ao)])), (5, .aref 1500 0), (6, .v (.bool q.1)), (7, .v (ti y))], obs [(1500, .arr 0 77 5 (arcsT q.2))], 3000, 1000, []⟩)
          ⟨DM.look [(0, .v (.sl (arcsT l))), (3, .v (.box [ti af, ti at', ti ax, ti ac, .sl (opsT ao)])), (5, .aref 1500 0), (6, .v (.bool dn')), (7, .v (ti y))], obs [(1500, .arr 0 77 5 (arcsT out'))], nx, 1000, []⟩ := by
        intro dn' out' ho hqq nx
        refine SatD.reg hΓ follows [0, 3, 5, 6, 7] ?_
        simp [d35r14, hr, hcc, hL, Arc.enc, roomOk, chunk]
        refine ⟨by omega, Le.keep ?_ ?_ ?_ ?_⟩
        · simp
        · simp
        · simp [hqq, arcsT_snoc, Arc.enc]
        · simp [hqq]
      refine SatD.cond rfl (fun h1 => ?_) (fun h1 => ?_)
      · rw [h1] at hc1
        simp only [decide_eq_true_eq] at hc1
        obtain ⟨hdn, hkk⟩ := hc1
        subst hdn
        rw [if_pos ⟨rfl, by simpa using hkk⟩] at hq
        refine SatD.regSeq hΓ follows [0, 3, 5, 6, 7] ?_
        simp [d35r8]
        refine SatD.regSeq hΓ follows [0, 3, 5, 6, 7, 57] ?_
        simp [d35r9, hr, hcc, hL, Arc.enc]
        refine SatD.cond rfl (fun h2 => ?_) (fun h2 => ?_)
        · simp at h2
          refine SatD.regSeq hΓ follows [0, 3, 5, 6, 7] ?_
          simp [d35r10, roomOk, chunk]
          refine ⟨by omega, ?_⟩
          refine SatD.exit ?_
          simp
          rw [if_pos (by rw [hac]; exact h2)] at hq
          subst hq
          refine Le.keep ?_ ?_ ?_ ?_
          · simp
          · simp
          · simp [arcsT_snoc, henc]
          · simp
        · simp at h2
          rw [if_neg (by rw [hac]; omega)] at hq
          refine SatD.skip ?_
          simp
          refine SatD.le (Le.keep (o := [(1500, .arr 0 77 5 (arcsT out))]) (l := [(0, .v (.sl (arcsT l))), (3, .v (.box [ti af, ti at', ti ax, ti ac, .sl (opsT ao)])), (5, .aref 1500 0), (6, .v (.bool true)), (7, .v (ti y))]) (nxt' := 4000) ?_ ?_ ?_ ?_) ?_
          · simp
          · simp
          · simp
          · simp
          refine SatD.seq ?_
          refine SatD.regToS hΓ follows [(0, .v (.sl (arcsT l))), (3, .v (.box [ti af, ti at', ti ax, ti ac, .sl (opsT ao)])), (5, .aref 1500 0), (6, .v (.bool true)), (7, .v (ti y)), (71, .v (.bool false))] (by simp [d35r11]) ?_
          refine SatD.cond rfl (fun h => by cases h) (fun _ => ?_)
          refine SatD.skip ?_
          simp
          refine SatD.le (Le.keep (o := [(1500, .arr 0 77 5 (arcsT out))]) (l := [(0, .v (.sl (arcsT l))), (3, .v (.box [ti af, ti at', ti ax, ti ac, .sl (opsT ao)])), (5, .aref 1500 0), (6, .v (.bool true)), (7, .v (ti y))]) (nxt' := 5000) ?_ ?_ ?_ ?_) ?_
          · simp
          · simp
          · simp
          · simp
          exact tail true out (by omega) hq.symm 5000
      · rw [h1] at hc1
        simp only [decide_eq_false_iff_not] at hc1
        rw [if_neg (fun h => hc1 ⟨h.1, by simpa using h.2⟩)] at hq
        refine SatD.skip ?_
        simp
        refine SatD.le (Le.keep (o := [(1500, .arr 0 77 5 (arcsT out))]) (l := [(0, .v (.sl (arcsT l))), (3, .v (.box [ti af, ti at', ti ax, ti ac, .sl (opsT ao)])), (5, .aref 1500 0), (6, .v (.bool dn)), (7, .v (ti y))]) (nxt' := 4000) ?_ ?_ ?_ ?_) ?_
        · simp
        · simp
        · simp
        · simp
        refine SatD.seq ?_
        obtain ⟨c2, hc2⟩ : ∃ c : Bool, decide (dn = false ∧ before a ⟨bf, bt, bx, bc, bo⟩) = c := ⟨_, rfl⟩
        refine SatD.regToS hΓ follows [(0, .v (.sl (arcsT l))), (3, .v (.box [ti af, ti at', ti ax, ti ac, .sl (opsT ao)])), (5, .aref 1500 0), (6, .v (.bool dn)), (7, .v (ti y)), (71, .v (.bool c2))] ?_ ?_
        · cases dn with
          | true =>
            have : c2 = false := by rw [← hc2]; simp
            simp [d35r11, this]
          | false =>
            have : c2 = decide (before a ⟨bf, bt, bx, bc, bo⟩) := by rw [← hc2]; simp
            simp [d35r11, hr, hcc, hL, Arc.enc, this]
            rw [show decArc [ti bf, ti bt, ti bx, ti bc, T.sl (opsT bo)] = ⟨bf, bt, bx, bc, bo⟩ from decArc_enc ⟨bf, bt, bx, bc, bo⟩, show decArc [ti af, ti at', ti ax, ti ac, T.sl (opsT ao)] = a by rw [← henc]; exact decArc_enc a]
            exact ⟨⟨⟨⟨af, at', ax, ac, ao⟩, rfl, rfl, rfl, rfl, rfl⟩, ⟨⟨bf, bt, bx, bc, bo⟩, rfl, rfl, rfl, rfl, rfl⟩⟩, Iff.rfl⟩
        refine SatD.cond rfl (fun h2 => ?_) (fun h2 => ?_)
        · rw [h2] at hc2
          simp only [decide_eq_true_eq] at hc2
          obtain ⟨hdn, hbb⟩ := hc2
          subst hdn
          rw [if_pos ⟨rfl, hbb⟩] at hq
          refine SatD.regSeq hΓ follows [0, 3, 5, 6, 7] ?_
          simp [d35r12]
          refine SatD.reg hΓ follows [0, 3, 5, 6, 7] ?_
          simp [d35r13, roomOk, chunk]
          refine ⟨by omega, ?_⟩
          refine SatD.le (Le.keep (o := [(1500, .arr 0 77 5 (arcsT (out ++ [a])))]) (l := [(0, .v (.sl (arcsT l))), (3, .v (.box [ti af, ti at', ti ax, ti ac, .sl (opsT ao)])), (5, .aref 1500 0), (6, .v (.bool true)), (7, .v (ti y))]) (nxt' := 5000) ?_ ?_ ?_ ?_) ?_
          · simp
          · simp
          · simp [arcsT_snoc, henc]
          · simp
          exact tail true (out ++ [a]) (by simp) hq.symm 5000
        · rw [h2] at hc2
          simp only [decide_eq_false_iff_not] at hc2
          rw [if_neg hc2] at hq
          refine SatD.skip ?_
          simp
          refine SatD.le (Le.keep (o := [(1500, .arr 0 77 5 (arcsT out))]) (l := [(0, .v (.sl (arcsT l))), (3, .v (.box [ti af, ti at', ti ax, ti ac, .sl (opsT ao)])), (5, .aref 1500 0), (6, .v (.bool dn)), (7, .v (ti y))]) (nxt' := 5000) ?_ ?_ ?_ ?_) ?_
          · simp
          · simp
          · simp
          · simp
          exact tail dn out (by omega) hq.symm 5000
    · refine SatD.reg hΓ follows [0, 3, 5, 6, 7] ?_
      simp [d35r15]
      rw [wrap_id (by omega)]
      refine ⟨y + 1, Le.keep ?_ ?_ ?_ ?_, ⟨by omega, by rw [hsucc]; omega⟩, by omega⟩
      · simp
      · simp
      · simp [hsucc]
      · simp [hsucc]
  simp at hcc
  have hyl : y = l.length := by omega
  subst hyl
  rw [List.take_length] at hy2 ⊢
  obtain ⟨p, hp⟩ : ∃ p, putFold a l = p := ⟨_, rfl⟩
  rw [hp] at hR hy2 ⊢
  obtain ⟨dn, out⟩ := p
  simp only at hR hy2 ⊢
  refine SatD.exit ?_
  simp
  refine SatD.seq ?_
  refine SatD.regSeq hΓ follows [3, 5, 84] ?_
  simp [d35r16]
  refine SatD.to ⟨DM.look [(5, .aref 1500 0)], obs [(1500, .arr 0 77 5 (arcsT R))], 9000, 1000, []⟩ ?_ ?_
  · refine SatD.cond rfl (fun h3 => ?_) (fun h3 => ?_)
    · simp at h3
      subst h3
      rw [if_neg (by simp)] at hR
      refine SatD.reg hΓ follows [5] ?_
      simp [d35r17, roomOk, chunk]
      refine ⟨by omega, Le.keep ?_ ?_ ?_ ?_⟩
      · simp
      · simp
      · simp [← hR, arcsT_snoc, henc]
      · simp
    · simp at h3
      subst h3
      rw [if_pos rfl] at hR
      subst hR
      refine SatD.skip ⟨rfl, Le.keep ?_ ?_ ?_ ?_⟩
      · simp
      · simp
      · simp
      · simp
  refine SatD.regSeq hΓ follows [4] ?_
  simp [d35r18]
  refine SatD.ret ?_
  simp [d35res]
end Go.Proofs
/- The reference's Build. Conditions: none. -/
namespace Go.Proofs
open Go.DM
set_option linter.unusedSimpArgs false
set_option linter.unusedVariables false

@[simp] theorem decArc_enc' (a b c d : Int) (o : List (Int × Int)) : decArc [ti a, ti b, ti c, ti d, .sl (opsT o)] = ⟨a, b, c, d, o⟩ := decArc_enc ⟨a, b, c, d, o⟩
@[simp] theorem decArc_nil' (a b c d : Int) : decArc [ti a, ti b, ti c, ti d, .sl []] = ⟨a, b, c, d, []⟩ := decArc_enc ⟨a, b, c, d, []⟩
/-- One part for each number from i on. -/
def ft {α : Type} (f : Nat → List α) (i m : Nat) : List α := (List.range (m - i)).flatMap fun e => f (i + e)
theorem ft_succ {α : Type} (f : Nat → List α) {i m : Nat} (h : i ≤ m) : ft f i (m + 1) = ft f i m ++ f m := by
  unfold ft
  rw [show m + 1 - i = (m - i) + 1 by omega, List.range_succ, List.flatMap_append]
  simp [show i + (m - i) = m by omega]
theorem ft_nil {α : Type} (f : Nat → List α) (i : Nat) : ft f i i = [] := by simp [ft]

def readAt (x : Input) (m t : Nat) : Int := (x.columns.getD m default).read.getD t default
def rA (x : Input) (i m t : Nat) : List Arc := if m < x.columns.length ∧ 0 ≤ readAt x m t then [⟨2 * i, 2 * m + 2, t, satA (delC x i m) (readAt x m t), dels (m - i) ++ [(1, (t : Int))]⟩] else []
def rS (x : Input) (i m : Nat) : List Arc := if swapOk x m then [⟨2 * i, 2 * m + 1, (x.columns.getD (m + 1) default).kind, satA (delC x i m) x.swap, dels (m - i) ++ [(4, 0)]⟩] else []
def rM (x : Input) (i m : Nat) : List Arc := ft (rA x i m) 0 x.insert.length ++ rS x i m
def rT (x : Input) (i : Nat) : List Arc := if swapOk x i then [⟨2 * i + 1, 2 * i + 4, (x.columns.getD i default).kind, 0, []⟩] else []
def rI (x : Input) (i : Nat) : List Arc := ft (rM x i) i (x.columns.length + 1) ++ rT x i
def iT (x : Input) (i m t : Nat) : List Arc := [⟨2 * i, 2 * m, t, satA (delC x i m) (x.insert.getD t default), dels (m - i) ++ [(3, (t : Int))]⟩]
def iM (x : Input) (i m : Nat) : List Arc := ft (iT x i m) 0 x.insert.length
def iI (x : Input) (i : Nat) : List Arc := ft (iM x i) i (x.columns.length + 1)
def putAll (l cs : List Arc) : List Arc := cs.foldl putL l
theorem putAll_append (l cs ds : List Arc) : putAll l (cs ++ ds) = putAll (putAll l cs) ds := by simp [putAll]
def refArcs (x : Input) : List Arc := putAll (putAll [] (ft (rI x) 0 (x.columns.length + 1))) (ft (iI x) 0 (x.columns.length + 1))
def refFin (x : Input) (k : Nat) : List Int := (List.range (2 * x.columns.length + 1)).map fun s => if s < k then (if s % 2 = 0 then delC x (s / 2) x.columns.length else 1099511627776) else 0
def refBuildL (x : Input) : Lattice := ⟨2 * x.columns.length + 1, refArcs x, refFin x (2 * x.columns.length + 1)⟩

theorem putStep_len2 (a : Arc) (p : Bool × List Arc) (b : Arc) : (putStep a p b).2.length + p.1.toNat ≤ p.2.length + 1 + (putStep a p b).1.toNat := by
  unfold putStep
  cases hp : p.1 with
  | true => simp
  | false =>
    simp only [true_and, Bool.toNat_false]
    split
    · simp
    · split <;> simp
theorem putFold_len (a : Arc) (l : List Arc) : (putFold a l).2.length ≤ l.length + (putFold a l).1.toNat := by
  have key : ∀ (l : List Arc) (p : Bool × List Arc), (l.foldl (putStep a) p).2.length + p.1.toNat ≤ p.2.length + l.length + (l.foldl (putStep a) p).1.toNat := by
    intro l
    induction l with
    | nil => intro p; simp
    | cons b l ih =>
      intro p
      simp only [List.foldl_cons, List.length_cons]
      have h := ih (putStep a p b)
      have hs := putStep_len2 a p b
      omega
  have h := key l (false, [])
  simpa [putFold] using h
theorem putL_len (l : List Arc) (a : Arc) : (putL l a).length ≤ l.length + 1 := by
  have h := putFold_len a l
  unfold putL
  split
  · omega
  · split
    · rename_i hd; rw [hd] at h; simpa using h
    · rename_i hd
      simp only [Bool.not_eq_true] at hd
      rw [hd] at h
      simp at h ⊢
      omega
theorem putAll_len (cs : List Arc) : ∀ l : List Arc, (putAll l cs).length ≤ l.length + cs.length := by
  induction cs with
  | nil => intro l; simp [putAll]
  | cons c cs ih =>
    intro l
    have h1 := ih (putL l c)
    have h2 := putL_len l c
    have e : putAll l (c :: cs) = putAll (putL l c) cs := rfl
    rw [e]
    simp only [List.length_cons]
    omega
theorem rA_len (x : Input) (i m t : Nat) : (rA x i m t).length ≤ 1 := by unfold rA; split <;> simp
theorem rS_len (x : Input) (i m : Nat) : (rS x i m).length ≤ 1 := by unfold rS; split <;> simp
theorem rT_len (x : Input) (i : Nat) : (rT x i).length ≤ 1 := by unfold rT; split <;> simp
theorem ft_len {α : Type} {f : Nat → List α} {B : Nat} (h : ∀ k, (f k).length ≤ B) (i m : Nat) : (ft f i m).length ≤ (m - i) * B := by
  unfold ft
  have : ∀ k, ((List.range k).flatMap fun e => f (i + e)).length ≤ k * B := by
    intro k
    induction k with
    | zero => simp
    | succ k ih =>
      rw [List.range_succ, List.flatMap_append, List.length_append, Nat.succ_mul]
      have := h (i + k)
      simp only [List.flatMap_cons, List.flatMap_nil, List.append_nil]
      omega
  exact this _
theorem rM_len (x : Input) (i m : Nat) (h : x.insert.length ≤ 100) : (rM x i m).length ≤ 101 := by
  unfold rM
  have h1 := ft_len (rA_len x i m) 0 x.insert.length
  have h2 := rS_len x i m
  rw [List.length_append]
  omega
theorem rI_len (x : Input) (i : Nat) (h : x.insert.length ≤ 100) (hn : x.columns.length ≤ 60) : (rI x i).length ≤ 7000 := by
  unfold rI
  have h1 := ft_len (f := rM x i) (B := 101) (fun k => rM_len x i k h) i (x.columns.length + 1)
  have h2 := rT_len x i
  rw [List.length_append]
  omega
theorem iM_len (x : Input) (i m : Nat) (h : x.insert.length ≤ 100) : (iM x i m).length ≤ 100 := by
  unfold iM
  have h1 := ft_len (f := iT x i m) (B := 1) (fun k => by simp [iT]) 0 x.insert.length
  omega
theorem iI_len (x : Input) (i : Nat) (h : x.insert.length ≤ 100) (hn : x.columns.length ≤ 60) : (iI x i).length ≤ 7000 := by
  unfold iI
  have h1 := ft_len (f := iM x i) (B := 100) (fun k => iM_len x i k h) i (x.columns.length + 1)
  omega

abbrev s34 (x : Input) : DM.Spec := specP (fun ts => ∃ i m : Nat, ts = [x.enc, ti i, ti m] ∧ i ≤ m ∧ m ≤ x.columns.length) (fun | [_, .int _ i, .int _ m] => ti (delC x i.toNat m.toNat) | _ => .bool false) true
abbrev s38 (x : Input) : DM.Spec := specP (fun ts => ∃ m : Nat, ts = [x.enc, ti m] ∧ m ≤ 1000000) (fun | [_, .int _ m] => .bool (swapOk x m.toNat) | _ => .bool false) true
abbrev s37 : DM.Spec := specP (fun ts => ∃ (n : Nat) (a b : Int), ts = [ti n, .agg [ti a, ti b]] ∧ n ≤ 1000000) (fun | [.int _ n, .agg [.int _ a, .int _ b]] => .sl (opsT (dels n.toNat ++ [(a, b)])) | _ => .bool false) false
abbrev s35 : DM.Spec := specP (fun ts => ∃ (l : List Arc) (a : Arc), ts = [.sl (arcsT l), .agg a.enc] ∧ l.length ≤ 1000000000) (fun | [.sl l, .agg a] => .sl (arcsT (putL (decArcs l) (decArc a))) | _ => .bool false) false
abbrev Γ14 (x : Input) : Env := envOf [(26, s34 x), (30, s38 x), (29, s37), (27, s35), (28, spec36)]
theorem ok14 (x : Input) (hd : delOk x.columns) : EnvOk Tryz.prog (Γ14 x) := by
  refine EnvOk.cons (EnvOk.cons (EnvOk.cons (EnvOk.cons ok36 ?_) ?_) ?_) ?_
  · rintro ts ⟨l, a, rfl, h⟩
    exact ⟨by simpa using t35 l a h, fun h => by cases h⟩
  · rintro ts ⟨n, a, b, rfl, h⟩
    exact ⟨by simpa using t37 n a b h, fun h => by cases h⟩
  · rintro ts ⟨m, rfl, h⟩
    exact ⟨by simpa using t38 x m h hd.1, fun _ => rfl⟩
  · rintro ts ⟨i, m, rfl, h1, h2⟩
    exact ⟨by simpa using t34 x i m h1 h2 hd, fun _ => rfl⟩
end Go.Proofs
