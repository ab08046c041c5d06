import Derived.Test.YtlimlhidndflhaaDoorJ0b
import Derived.KernelRfl
import Derived.Test.YtlimlhidndflhaaDoorMe
set_option maxRecDepth 100000

namespace Go.Proofs
open Go.DM

-- emendate/emendateref37.Build
def d14r0 : List RO := [
  ⟨.box (.tmp 0), (some 1), none, [], none⟩,
  ⟨.alloc [(.v (.int .i64 0)), .nil0, .nil0], (some 2), none, [], none⟩]
def d14r1 : List RO := [
  ⟨.addOff 0 (.tmp 1), (some 15), none, [], none⟩,
  ⟨.load 1 false (.tmp 15), (some 16), none, [0], none⟩,
  ⟨.len (.tmp 16), (some 17), none, [1], none⟩,
  ⟨.mov (.tmp 17), (some 3), none, [2, 0, 1, 2], none⟩]
def d14r2 : List RO := [
  ⟨.mov (.con .nil0), (some 4), none, [], none⟩]
def d14r3 : List RO := [
  ⟨.mov (.con (.v (.int .i64 0))), (some 5), none, [], none⟩]
def d14r4 : List RO := [
  ⟨.mov (.tmp 5), (some 18), none, [], none⟩,
  ⟨.mov (.tmp 3), (some 19), none, [], none⟩,
  ⟨.bin .leq (.tmp 18) (.tmp 19), (some 20), none, [0, 1], none⟩]
def d14r5 : List RO := [
  ⟨.mov (.tmp 5), (some 23), none, [], none⟩,
  ⟨.mov (.tmp 23), (some 6), none, [0, 0], none⟩]
def d14r6 : List RO := [
  ⟨.mov (.tmp 6), (some 24), none, [], none⟩,
  ⟨.mov (.tmp 3), (some 25), none, [], none⟩,
  ⟨.bin .leq (.tmp 24) (.tmp 25), (some 26), none, [0, 1], none⟩]
def d14r7 : List RO := [
  ⟨.load 3 true (.tmp 1), (some 29), none, [], none⟩,
  ⟨.mov (.tmp 5), (some 30), none, [], none⟩,
  ⟨.mov (.tmp 6), (some 31), none, [], none⟩,
  ⟨.call 26 [(.tmp 29), (.tmp 30), (.tmp 31)], (some 32), none, [0, 1, 2], none⟩,
  ⟨.mov (.tmp 32), (some 7), none, [3, 3, 0, 1, 2, 3], none⟩]
def d14r8 : List RO := [
  ⟨.mov (.con (.v (.int .i64 0))), (some 8), none, [], none⟩]
def d14r9 : List RO := [
  ⟨.mov (.tmp 8), (some 33), none, [], none⟩,
  ⟨.addOff 1 (.tmp 1), (some 34), none, [], none⟩,
  ⟨.load 1 false (.tmp 34), (some 35), none, [1], none⟩,
  ⟨.len (.tmp 35), (some 36), none, [2], none⟩,
  ⟨.bin .lss (.tmp 33) (.tmp 36), (some 37), none, [0, 3], none⟩]
def d14r10 : List RO := [
  ⟨.mov (.tmp 6), (some 40), none, [], none⟩,
  ⟨.mov (.tmp 3), (some 41), none, [], none⟩,
  ⟨.bin .lss (.tmp 40) (.tmp 41), (some 42), none, [0, 1], none⟩,
  ⟨.mov (.tmp 42), (some 43), none, [2], none⟩,
  ⟨.addOff 0 (.tmp 1), (some 44), (some (43, true)), [3], none⟩,
  ⟨.load 1 false (.tmp 44), (some 45), (some (43, true)), [4, 3], none⟩,
  ⟨.mov (.tmp 6), (some 46), (some (43, true)), [3], none⟩,
  ⟨.idxAddr 3 (.tmp 45) (.tmp 46), (some 47), (some (43, true)), [5, 6, 3], none⟩,
  ⟨.addOff 1 (.tmp 47), (some 48), (some (43, true)), [7, 3], none⟩,
  ⟨.load 1 false (.tmp 48), (some 49), (some (43, true)), [8, 3], none⟩,
  ⟨.mov (.tmp 8), (some 50), (some (43, true)), [3], none⟩,
  ⟨.idxAddr 1 (.tmp 49) (.tmp 50), (some 51), (some (43, true)), [9, 10, 3], none⟩,
  ⟨.load 1 false (.tmp 51), (some 52), (some (43, true)), [11, 3], none⟩,
  ⟨.bin .geq (.tmp 52) (.con (.v (.int .i64 0))), (some 53), (some (43, true)), [12, 3], none⟩,
  ⟨.pick (.tmp 43) (.tmp 53) (.con (.v (.bool false))), (some 54), none, [3, 13], none⟩]
def d14r11 : List RO := [
  ⟨.mov (.tmp 4), (some 55), none, [], none⟩,
  ⟨.mov (.tmp 5), (some 56), none, [], none⟩,
  ⟨.bin .mul (.con (.v (.int .i64 2))) (.tmp 56), (some 57), none, [1], none⟩,
  ⟨.mov (.tmp 6), (some 58), none, [], none⟩,
  ⟨.bin .mul (.con (.v (.int .i64 2))) (.tmp 58), (some 59), none, [3], none⟩,
  ⟨.bin .add (.tmp 59) (.con (.v (.int .i64 2))), (some 60), none, [4], none⟩,
  ⟨.mov (.tmp 8), (some 61), none, [], none⟩,
  ⟨.mov (.tmp 7), (some 62), none, [], none⟩,
  ⟨.addOff 0 (.tmp 1), (some 63), none, [], none⟩,
  ⟨.load 1 false (.tmp 63), (some 64), none, [8], none⟩,
  ⟨.mov (.tmp 6), (some 65), none, [], none⟩,
  ⟨.idxAddr 3 (.tmp 64) (.tmp 65), (some 66), none, [9, 10], none⟩,
  ⟨.addOff 1 (.tmp 66), (some 67), none, [11], none⟩,
  ⟨.load 1 false (.tmp 67), (some 68), none, [12], none⟩,
  ⟨.mov (.tmp 8), (some 69), none, [], none⟩,
  ⟨.idxAddr 1 (.tmp 68) (.tmp 69), (some 70), none, [13, 14], none⟩,
  ⟨.load 1 false (.tmp 70), (some 71), none, [15], none⟩,
  ⟨.call 28 [(.tmp 62), (.tmp 71)], (some 72), none, [7, 16], none⟩,
  ⟨.mov (.tmp 6), (some 73), none, [], none⟩,
  ⟨.mov (.tmp 5), (some 74), none, [], none⟩,
  ⟨.bin .sub (.tmp 73) (.tmp 74), (some 75), none, [18, 19], none⟩,
  ⟨.mov (.tmp 8), (some 76), none, [], none⟩,
  ⟨.build [(.v (.int .i64 0)), (.v (.int .i64 0))] [(0, 1, (.con (.v (.int .i64 1)))), (1, 1, (.tmp 76))], (some 77), none, [21], none⟩,
  ⟨.call 29 [(.tmp 75), (.tmp 77)], (some 78), none, [20, 22, 17], none⟩,
  ⟨.build [(.v (.int .i64 0)), (.v (.int .i64 0)), (.v (.int .i64 0)), (.v (.int .i64 0)), .nil0] [(0, 1, (.tmp 57)), (1, 1, (.tmp 60)), (2, 1, (.tmp 61)), (3, 1, (.tmp 72)), (4, 1, (.tmp 78))], (some 79), none, [2, 5, 6, 17, 23], none⟩,
  ⟨.call 27 [(.tmp 55), (.tmp 79)], (some 80), none, [0, 24, 23], none⟩,
  ⟨.mov (.tmp 80), (some 4), none, [25, 25, 0, 1, 2, 3, 4, 5, 6, 7, 8, 9, 10, 11, 12, 13, 14, 15, 16, 17, 18, 19, 20, 21, 22, 23, 24, 25], none⟩]
def d14r12 : List RO := [
  ⟨.mov (.tmp 8), (some 38), none, [], none⟩,
  ⟨.bin .add (.tmp 38) (.con (.v (.int .i64 1))), (some 39), none, [0], none⟩,
  ⟨.mov (.tmp 39), (some 8), none, [1, 0, 1], none⟩]
def d14r13 : List RO := [
  ⟨.load 3 true (.tmp 1), (some 81), none, [], none⟩,
  ⟨.mov (.tmp 6), (some 82), none, [], none⟩,
  ⟨.call 30 [(.tmp 81), (.tmp 82)], (some 83), none, [0, 1], none⟩]
def d14r14 : List RO := [
  ⟨.mov (.tmp 4), (some 84), none, [], none⟩,
  ⟨.mov (.tmp 5), (some 85), none, [], none⟩,
  ⟨.bin .mul (.con (.v (.int .i64 2))) (.tmp 85), (some 86), none, [1], none⟩,
  ⟨.mov (.tmp 6), (some 87), none, [], none⟩,
  ⟨.bin .mul (.con (.v (.int .i64 2))) (.tmp 87), (some 88), none, [3], none⟩,
  ⟨.bin .add (.tmp 88) (.con (.v (.int .i64 1))), (some 89), none, [4], none⟩,
  ⟨.addOff 0 (.tmp 1), (some 90), none, [], none⟩,
  ⟨.load 1 false (.tmp 90), (some 91), none, [6], none⟩,
  ⟨.mov (.tmp 6), (some 92), none, [], none⟩,
  ⟨.bin .add (.tmp 92) (.con (.v (.int .i64 1))), (some 93), none, [8], none⟩,
  ⟨.idxAddr 3 (.tmp 91) (.tmp 93), (some 94), none, [7, 9], none⟩,
  ⟨.addOff 0 (.tmp 94), (some 95), none, [10], none⟩,
  ⟨.load 1 false (.tmp 95), (some 96), none, [11], none⟩,
  ⟨.mov (.tmp 7), (some 97), none, [], none⟩,
  ⟨.addOff 2 (.tmp 1), (some 98), none, [], none⟩,
  ⟨.load 1 false (.tmp 98), (some 99), none, [14], none⟩,
  ⟨.call 28 [(.tmp 97), (.tmp 99)], (some 100), none, [13, 15], none⟩,
  ⟨.mov (.tmp 6), (some 101), none, [], none⟩,
  ⟨.mov (.tmp 5), (some 102), none, [], none⟩,
  ⟨.bin .sub (.tmp 101) (.tmp 102), (some 103), none, [17, 18], none⟩,
  ⟨.build [(.v (.int .i64 0)), (.v (.int .i64 0))] [(0, 1, (.con (.v (.int .i64 4))))], (some 104), none, [], none⟩,
  ⟨.call 29 [(.tmp 103), (.tmp 104)], (some 105), none, [19, 20, 16], none⟩,
  ⟨.build [(.v (.int .i64 0)), (.v (.int .i64 0)), (.v (.int .i64 0)), (.v (.int .i64 0)), .nil0] [(0, 1, (.tmp 86)), (1, 1, (.tmp 89)), (2, 1, (.tmp 96)), (3, 1, (.tmp 100)), (4, 1, (.tmp 105))], (some 106), none, [2, 5, 12, 16, 21], none⟩,
  ⟨.call 27 [(.tmp 84), (.tmp 106)], (some 107), none, [0, 22, 21], none⟩,
  ⟨.mov (.tmp 107), (some 4), none, [23, 23, 0, 1, 2, 3, 4, 5, 6, 7, 8, 9, 10, 11, 12, 13, 14, 15, 16, 17, 18, 19, 20, 21, 22, 23], none⟩]
def d14r15 : List RO := [
  ⟨.mov (.tmp 6), (some 27), none, [], none⟩,
  ⟨.bin .add (.tmp 27) (.con (.v (.int .i64 1))), (some 28), none, [0], none⟩,
  ⟨.mov (.tmp 28), (some 6), none, [1, 0, 1], none⟩]
def d14r16 : List RO := [
  ⟨.load 3 true (.tmp 1), (some 108), none, [], none⟩,
  ⟨.mov (.tmp 5), (some 109), none, [], none⟩,
  ⟨.call 30 [(.tmp 108), (.tmp 109)], (some 110), none, [0, 1], none⟩]
def d14r17 : List RO := [
  ⟨.mov (.tmp 4), (some 111), none, [], none⟩,
  ⟨.mov (.tmp 5), (some 112), none, [], none⟩,
  ⟨.bin .mul (.con (.v (.int .i64 2))) (.tmp 112), (some 113), none, [1], none⟩,
  ⟨.bin .add (.tmp 113) (.con (.v (.int .i64 1))), (some 114), none, [2], none⟩,
  ⟨.mov (.tmp 5), (some 115), none, [], none⟩,
  ⟨.bin .mul (.con (.v (.int .i64 2))) (.tmp 115), (some 116), none, [4], none⟩,
  ⟨.bin .add (.tmp 116) (.con (.v (.int .i64 4))), (some 117), none, [5], none⟩,
  ⟨.addOff 0 (.tmp 1), (some 118), none, [], none⟩,
  ⟨.load 1 false (.tmp 118), (some 119), none, [7], none⟩,
  ⟨.mov (.tmp 5), (some 120), none, [], none⟩,
  ⟨.idxAddr 3 (.tmp 119) (.tmp 120), (some 121), none, [8, 9], none⟩,
  ⟨.addOff 0 (.tmp 121), (some 122), none, [10], none⟩,
  ⟨.load 1 false (.tmp 122), (some 123), none, [11], none⟩,
  ⟨.build [(.v (.int .i64 0)), (.v (.int .i64 0)), (.v (.int .i64 0)), (.v (.int .i64 0)), .nil0] [(0, 1, (.tmp 114)), (1, 1, (.tmp 117)), (2, 1, (.tmp 123))], (some 124), none, [3, 6, 12], none⟩,
  ⟨.call 27 [(.tmp 111), (.tmp 124)], (some 125), none, [0, 13], none⟩,
  ⟨.mov (.tmp 125), (some 4), none, [14, 14, 0, 1, 2, 3, 4, 5, 6, 7, 8, 9, 10, 11, 12, 13, 14], none⟩]
def d14r18 : List RO := [
  ⟨.mov (.tmp 5), (some 21), none, [], none⟩,
  ⟨.bin .add (.tmp 21) (.con (.v (.int .i64 1))), (some 22), none, [0], none⟩,
  ⟨.mov (.tmp 22), (some 5), none, [1, 0, 1], none⟩]
def d14r19 : List RO := [
  ⟨.mov (.con (.v (.int .i64 0))), (some 9), none, [], none⟩]
def d14r20 : List RO := [
  ⟨.mov (.tmp 9), (some 126), none, [], none⟩,
  ⟨.mov (.tmp 3), (some 127), none, [], none⟩,
  ⟨.bin .leq (.tmp 126) (.tmp 127), (some 128), none, [0, 1], none⟩]
def d14r21 : List RO := [
  ⟨.mov (.tmp 9), (some 131), none, [], none⟩,
  ⟨.mov (.tmp 131), (some 10), none, [0, 0], none⟩]
def d14r22 : List RO := [
  ⟨.mov (.tmp 10), (some 132), none, [], none⟩,
  ⟨.mov (.tmp 3), (some 133), none, [], none⟩,
  ⟨.bin .leq (.tmp 132) (.tmp 133), (some 134), none, [0, 1], none⟩]
def d14r23 : List RO := [
  ⟨.mov (.con (.v (.int .i64 0))), (some 11), none, [], none⟩]
def d14r24 : List RO := [
  ⟨.mov (.tmp 11), (some 137), none, [], none⟩,
  ⟨.addOff 1 (.tmp 1), (some 138), none, [], none⟩,
  ⟨.load 1 false (.tmp 138), (some 139), none, [1], none⟩,
  ⟨.len (.tmp 139), (some 140), none, [2], none⟩,
  ⟨.bin .lss (.tmp 137) (.tmp 140), (some 141), none, [0, 3], none⟩]
def d14r25 : List RO := [
  ⟨.mov (.tmp 4), (some 144), none, [], none⟩,
  ⟨.mov (.tmp 9), (some 145), none, [], none⟩,
  ⟨.bin .mul (.con (.v (.int .i64 2))) (.tmp 145), (some 146), none, [1], none⟩,
  ⟨.mov (.tmp 10), (some 147), none, [], none⟩,
  ⟨.bin .mul (.con (.v (.int .i64 2))) (.tmp 147), (some 148), none, [3], none⟩,
  ⟨.mov (.tmp 11), (some 149), none, [], none⟩,
  ⟨.load 3 true (.tmp 1), (some 150), none, [], none⟩,
  ⟨.mov (.tmp 9), (some 151), none, [], none⟩,
  ⟨.mov (.tmp 10), (some 152), none, [], none⟩,
  ⟨.call 26 [(.tmp 150), (.tmp 151), (.tmp 152)], (some 153), none, [6, 7, 8], none⟩,
  ⟨.addOff 1 (.tmp 1), (some 154), none, [], none⟩,
  ⟨.load 1 false (.tmp 154), (some 155), none, [10], none⟩,
  ⟨.mov (.tmp 11), (some 156), none, [], none⟩,
  ⟨.idxAddr 1 (.tmp 155) (.tmp 156), (some 157), none, [11, 12], none⟩,
  ⟨.load 1 false (.tmp 157), (some 158), none, [13], none⟩,
  ⟨.call 28 [(.tmp 153), (.tmp 158)], (some 159), none, [9, 14, 9], none⟩,
  ⟨.mov (.tmp 10), (some 160), none, [], none⟩,
  ⟨.mov (.tmp 9), (some 161), none, [], none⟩,
  ⟨.bin .sub (.tmp 160) (.tmp 161), (some 162), none, [16, 17], none⟩,
  ⟨.mov (.tmp 11), (some 163), none, [], none⟩,
  ⟨.build [(.v (.int .i64 0)), (.v (.int .i64 0))] [(0, 1, (.con (.v (.int .i64 3)))), (1, 1, (.tmp 163))], (some 164), none, [19], none⟩,
  ⟨.call 29 [(.tmp 162), (.tmp 164)], (some 165), none, [18, 20, 15], none⟩,
  ⟨.build [(.v (.int .i64 0)), (.v (.int .i64 0)), (.v (.int .i64 0)), (.v (.int .i64 0)), .nil0] [(0, 1, (.tmp 146)), (1, 1, (.tmp 148)), (2, 1, (.tmp 149)), (3, 1, (.tmp 159)), (4, 1, (.tmp 165))], (some 166), none, [2, 4, 5, 15, 21], none⟩,
  ⟨.call 27 [(.tmp 144), (.tmp 166)], (some 167), none, [0, 22, 21], none⟩,
  ⟨.mov (.tmp 167), (some 4), none, [23, 23, 0, 1, 2, 3, 4, 5, 6, 7, 8, 9, 10, 11, 12, 13, 14, 15, 16, 17, 18, 19, 20, 21, 22, 23], none⟩]
def d14r26 : List RO := [
  ⟨.mov (.tmp 11), (some 142), none, [], none⟩,
  ⟨.bin .add (.tmp 142) (.con (.v (.int .i64 1))), (some 143), none, [0], none⟩,
  ⟨.mov (.tmp 143), (some 11), none, [1, 0, 1], none⟩]
def d14r27 : List RO := [
  ⟨.mov (.tmp 10), (some 135), none, [], none⟩,
  ⟨.bin .add (.tmp 135) (.con (.v (.int .i64 1))), (some 136), none, [0], none⟩,
  ⟨.mov (.tmp 136), (some 10), none, [1, 0, 1], none⟩]
def d14r28 : List RO := [
  ⟨.mov (.tmp 9), (some 129), none, [], none⟩,
  ⟨.bin .add (.tmp 129) (.con (.v (.int .i64 1))), (some 130), none, [0], none⟩,
  ⟨.mov (.tmp 130), (some 9), none, [1, 0, 1], none⟩]
def d14r29 : List RO := [
  ⟨.mov (.tmp 3), (some 168), none, [], none⟩,
  ⟨.bin .mul (.con (.v (.int .i64 2))) (.tmp 168), (some 169), none, [0], none⟩,
  ⟨.bin .add (.tmp 169) (.con (.v (.int .i64 1))), (some 170), none, [1], none⟩,
  ⟨.mov (.tmp 4), (some 171), none, [], none⟩,
  ⟨.build [(.v (.int .i64 0)), .nil0, .nil0] [(0, 1, (.tmp 170)), (1, 1, (.tmp 171))], (some 172), none, [2, 3], none⟩,
  ⟨.alloc [(.v (.int .i64 0)), .nil0, .nil0], (some 12), none, [], none⟩,
  ⟨.store 3 (.tmp 12) (.tmp 172), none, none, [5, 4, 0, 1, 2, 3, 4, 5], none⟩]
def d14r30 : List RO := [
  ⟨.mov (.tmp 3), (some 173), none, [], none⟩,
  ⟨.bin .mul (.con (.v (.int .i64 2))) (.tmp 173), (some 174), none, [0], none⟩,
  ⟨.bin .add (.tmp 174) (.con (.v (.int .i64 1))), (some 175), none, [1], none⟩,
  ⟨.mkSlice 3 1 8 [(.int .i64 0)] (.tmp 175), (some 176), none, [2, 2], none⟩,
  ⟨.mov (.tmp 176), (some 13), none, [3, 0, 1, 2, 3], none⟩]
def d14r31 : List RO := [
  ⟨.mov (.con (.v (.int .i64 0))), (some 14), none, [], none⟩]
def d14r32 : List RO := [
  ⟨.mov (.tmp 14), (some 177), none, [], none⟩,
  ⟨.mov (.tmp 13), (some 178), none, [], none⟩,
  ⟨.len (.tmp 178), (some 179), none, [1], none⟩,
  ⟨.bin .lss (.tmp 177) (.tmp 179), (some 180), none, [0, 2], none⟩]
def d14r33 : List RO := [
  ⟨.mov (.tmp 13), (some 183), none, [], none⟩,
  ⟨.mov (.tmp 14), (some 184), none, [], none⟩,
  ⟨.idxAddr 1 (.tmp 183) (.tmp 184), (some 185), none, [0, 1, 0, 1], none⟩,
  ⟨.store 1 (.tmp 185) (.con (.v (.int .i64 1099511627776))), none, none, [2, 0, 1], none⟩]
def d14r34 : List RO := [
  ⟨.mov (.tmp 14), (some 186), none, [], none⟩,
  ⟨.bin .rem (.tmp 186) (.con (.v (.int .i64 2))), (some 187), none, [0], none⟩,
  ⟨.bin .eql (.tmp 187) (.con (.v (.int .i64 0))), (some 188), none, [1], none⟩]
def d14r35 : List RO := [
  ⟨.mov (.tmp 13), (some 189), none, [], none⟩,
  ⟨.mov (.tmp 14), (some 190), none, [], none⟩,
  ⟨.load 3 true (.tmp 1), (some 191), none, [], none⟩,
  ⟨.mov (.tmp 14), (some 192), none, [], none⟩,
  ⟨.bin .quo (.tmp 192) (.con (.v (.int .i64 2))), (some 193), none, [3], none⟩,
  ⟨.mov (.tmp 3), (some 194), none, [], none⟩,
  ⟨.call 26 [(.tmp 191), (.tmp 193), (.tmp 194)], (some 195), none, [2, 4, 5], none⟩,
  ⟨.idxAddr 1 (.tmp 189) (.tmp 190), (some 196), none, [0, 1, 0, 1, 2, 3, 4, 5, 6], none⟩,
  ⟨.store 1 (.tmp 196) (.tmp 195), none, none, [7, 6, 6, 0, 1, 2, 3, 4, 5, 6], none⟩]
def d14r36 : List RO := [
  ⟨.mov (.tmp 14), (some 181), none, [], none⟩,
  ⟨.bin .add (.tmp 181) (.con (.v (.int .i64 1))), (some 182), none, [0], none⟩,
  ⟨.mov (.tmp 182), (some 14), none, [1, 0, 1], none⟩]
def d14r37 : List RO := [
  ⟨.mov (.tmp 13), (some 197), none, [], none⟩,
  ⟨.addOff 2 (.tmp 12), (some 198), none, [0], none⟩,
  ⟨.store 1 (.tmp 198) (.tmp 197), none, none, [1, 0, 0], none⟩]
def d14r38 : List RO := [
  ⟨.load 3 true (.tmp 12), (some 199), none, [], none⟩,
  ⟨.store 3 (.tmp 2) (.tmp 199), none, none, [0, 0], none⟩]
def d14 : DC := (.seq (.region false d14r0)
  (.seq (.region false d14r1)
  (.seq (.region false d14r2)
  (.seq (.seq (.region false d14r3)
  (.block 0 (.loop (.seq (.seq (.region false d14r4)
  (.cond (.tmp 20) .skip
  (.exit 0)))
  (.seq (.block 1 (.seq (.seq (.region false d14r5)
  (.block 2 (.loop (.seq (.seq (.region false d14r6)
  (.cond (.tmp 26) .skip
  (.exit 2)))
  (.seq (.block 3 (.seq (.region false d14r7)
  (.seq (.seq (.region false d14r8)
  (.block 4 (.loop (.seq (.seq (.region false d14r9)
  (.cond (.tmp 37) .skip
  (.exit 4)))
  (.seq (.block 5 (.seq (.region false d14r10)
  (.cond (.tmp 54) (.region false d14r11)
  .skip)))
  (.region false d14r12))))))
  (.seq (.region false d14r13)
  (.cond (.tmp 83) (.region true d14r14)
  .skip)))))
  (.region false d14r15))))))
  (.seq (.region false d14r16)
  (.cond (.tmp 110) (.region false d14r17)
  .skip))))
  (.region false d14r18))))))
  (.seq (.seq (.region false d14r19)
  (.block 6 (.loop (.seq (.seq (.region false d14r20)
  (.cond (.tmp 128) .skip
  (.exit 6)))
  (.seq (.block 7 (.seq (.region false d14r21)
  (.block 8 (.loop (.seq (.seq (.region false d14r22)
  (.cond (.tmp 134) .skip
  (.exit 8)))
  (.seq (.block 9 (.seq (.region false d14r23)
  (.block 10 (.loop (.seq (.seq (.region false d14r24)
  (.cond (.tmp 141) .skip
  (.exit 10)))
  (.seq (.block 11 (.region true d14r25))
  (.region false d14r26)))))))
  (.region false d14r27)))))))
  (.region false d14r28))))))
  (.seq (.region false d14r29)
  (.seq (.region false d14r30)
  (.seq (.seq (.region false d14r31)
  (.block 12 (.loop (.seq (.seq (.region false d14r32)
  (.cond (.tmp 180) .skip
  (.exit 12)))
  (.seq (.block 13 (.seq (.region false d14r33)
  (.seq (.region false d14r34)
  (.cond (.tmp 188) (.region false d14r35)
  .skip))))
  (.region false d14r36))))))
  (.seq (.region false d14r37)
  (.seq (.region false d14r38)
  .ret))))))))))
def d14res : List DRes := [.cell 2 3 true]
theorem c14 [Laid] : CodeOf Tryd.prog 8 200 d14 d14res := ⟨Tryd.f8, by kernel_rfl, by kernel_rfl, by kernel_rfl, by kernel_rfl, by kernel_rfl⟩
-- emendate/emendateref37.Deletion
def d34r0 : List RO := [
  ⟨.box (.tmp 0), (some 3), none, [], none⟩,
  ⟨.mov (.con (.v (.int .i64 0))), (some 6), none, [], none⟩]
def d34r1 : List RO := [
  ⟨.mov (.con (.v (.int .i64 0))), (some 7), none, [], none⟩]
def d34r2 : List RO := [
  ⟨.mov (.tmp 1), (some 9), none, [], none⟩,
  ⟨.mov (.tmp 9), (some 8), none, [0, 0], none⟩]
def d34r3 : List RO := [
  ⟨.mov (.tmp 8), (some 10), none, [], none⟩,
  ⟨.mov (.tmp 2), (some 11), none, [], none⟩,
  ⟨.bin .lss (.tmp 10) (.tmp 11), (some 12), none, [0, 1], none⟩]
def d34r4 : List RO := [
  ⟨.mov (.tmp 7), (some 15), none, [], none⟩,
  ⟨.addOff 0 (.tmp 3), (some 16), none, [], none⟩,
  ⟨.load 1 false (.tmp 16), (some 17), none, [1], none⟩,
  ⟨.mov (.tmp 8), (some 18), none, [], none⟩,
  ⟨.idxAddr 3 (.tmp 17) (.tmp 18), (some 19), none, [2, 3], none⟩,
  ⟨.addOff 2 (.tmp 19), (some 20), none, [4], none⟩,
  ⟨.load 1 false (.tmp 20), (some 21), none, [5], none⟩,
  ⟨.call 28 [(.tmp 15), (.tmp 21)], (some 22), none, [0, 6], none⟩,
  ⟨.mov (.tmp 22), (some 7), none, [7, 7, 0, 1, 2, 3, 4, 5, 6, 7], none⟩]
def d34r5 : List RO := [
  ⟨.mov (.tmp 8), (some 13), none, [], none⟩,
  ⟨.bin .add (.tmp 13) (.con (.v (.int .i64 1))), (some 14), none, [0], none⟩,
  ⟨.mov (.tmp 14), (some 8), none, [1, 0, 1], none⟩]
def d34r6 : List RO := [
  ⟨.mov (.tmp 7), (some 23), none, [], none⟩,
  ⟨.mov (.tmp 23), (some 6), none, [0, 0], none⟩]
def d34 : DC := (.seq (.region false d34r0)
  (.seq (.region false d34r1)
  (.seq (.seq (.region false d34r2)
  (.block 0 (.loop (.seq (.seq (.region false d34r3)
  (.cond (.tmp 12) .skip
  (.exit 0)))
  (.seq (.block 1 (.region false d34r4))
  (.region false d34r5))))))
  (.seq (.region false d34r6)
  .ret))))
def d34res : List DRes := [.slot 6]
theorem c34 [Laid] : CodeOf Tryd.prog 26 24 d34 d34res := ⟨Tryd.f26, by kernel_rfl, by kernel_rfl, by kernel_rfl, by kernel_rfl, by kernel_rfl⟩
-- emendate/emendateref37.put
def d35r0 : List RO := [
  ⟨.box (.tmp 1), (some 3), none, [], none⟩,
  ⟨.mov (.con .nil0), (some 4), none, [], none⟩]
def d35r1 : List RO := [
  ⟨.addOff 3 (.tmp 3), (some 8), none, [], none⟩,
  ⟨.load 1 false (.tmp 8), (some 9), none, [0], none⟩,
  ⟨.bin .geq (.tmp 9) (.con (.v (.int .i64 1099511627776))), (some 10), none, [1], none⟩]
def d35r2 : List RO := [
  ⟨.mov (.tmp 0), (some 11), none, [], none⟩,
  ⟨.mov (.tmp 11), (some 4), none, [0, 0], none⟩]
def d35r3 : List RO := [
  ⟨.mov (.con .nil0), (some 5), none, [], none⟩]
def d35r4 : List RO := [
  ⟨.mov (.con (.v (.bool false))), (some 6), none, [], none⟩]
def d35r5 : List RO := [
  ⟨.mov (.con (.v (.int .i64 0))), (some 7), none, [], none⟩]
def d35r6 : List RO := [
  ⟨.mov (.tmp 7), (some 12), none, [], none⟩,
  ⟨.mov (.tmp 0), (some 13), none, [], none⟩,
  ⟨.len (.tmp 13), (some 14), none, [1], none⟩,
  ⟨.bin .lss (.tmp 12) (.tmp 14), (some 15), none, [0, 2], none⟩]
def d35r7 : List RO := [
  ⟨.mov (.tmp 6), (some 18), none, [], none⟩,
  ⟨.un .not (.tmp 18), (some 19), none, [0], none⟩,
  ⟨.mov (.tmp 19), (some 20), none, [1], none⟩,
  ⟨.mov (.tmp 0), (some 21), (some (20, true)), [2], none⟩,
  ⟨.mov (.tmp 7), (some 22), (some (20, true)), [2], none⟩,
  ⟨.idxAddr 5 (.tmp 21) (.tmp 22), (some 23), (some (20, true)), [3, 4, 2], none⟩,
  ⟨.addOff 0 (.tmp 23), (some 24), (some (20, true)), [5, 2], none⟩,
  ⟨.load 1 false (.tmp 24), (some 25), (some (20, true)), [6, 2], none⟩,
  ⟨.addOff 0 (.tmp 3), (some 26), (some (20, true)), [2], none⟩,
  ⟨.load 1 false (.tmp 26), (some 27), (some (20, true)), [8, 2], none⟩,
  ⟨.bin .eql (.tmp 25) (.tmp 27), (some 28), (some (20, true)), [7, 9, 2], none⟩,
  ⟨.pick (.tmp 20) (.tmp 28) (.con (.v (.bool false))), (some 29), none, [2, 10], none⟩,
  ⟨.mov (.tmp 29), (some 30), none, [11, 2], none⟩,
  ⟨.mov (.tmp 0), (some 31), (some (30, true)), [12], none⟩,
  ⟨.mov (.tmp 7), (some 32), (some (30, true)), [12], none⟩,
  ⟨.idxAddr 5 (.tmp 31) (.tmp 32), (some 33), (some (30, true)), [13, 14, 12], none⟩,
  ⟨.addOff 1 (.tmp 33), (some 34), (some (30, true)), [15, 12], none⟩,
  ⟨.load 1 false (.tmp 34), (some 35), (some (30, true)), [16, 12], none⟩,
  ⟨.addOff 1 (.tmp 3), (some 36), (some (30, true)), [12], none⟩,
  ⟨.load 1 false (.tmp 36), (some 37), (some (30, true)), [18, 12], none⟩,
  ⟨.bin .eql (.tmp 35) (.tmp 37), (some 38), (some (30, true)), [17, 19, 12], none⟩,
  ⟨.pick (.tmp 30) (.tmp 38) (.con (.v (.bool false))), (some 39), none, [12, 20], none⟩,
  ⟨.mov (.tmp 39), (some 40), none, [21, 12], none⟩,
  ⟨.mov (.tmp 0), (some 41), (some (40, true)), [22], none⟩,
  ⟨.mov (.tmp 7), (some 42), (some (40, true)), [22], none⟩,
  ⟨.idxAddr 5 (.tmp 41) (.tmp 42), (some 43), (some (40, true)), [23, 24, 22], none⟩,
  ⟨.addOff 2 (.tmp 43), (some 44), (some (40, true)), [25, 22], none⟩,
  ⟨.load 1 false (.tmp 44), (some 45), (some (40, true)), [26, 22], none⟩,
  ⟨.addOff 2 (.tmp 3), (some 46), (some (40, true)), [22], none⟩,
  ⟨.load 1 false (.tmp 46), (some 47), (some (40, true)), [28, 22], none⟩,
  ⟨.bin .eql (.tmp 45) (.tmp 47), (some 48), (some (40, true)), [27, 29, 22], none⟩,
  ⟨.pick (.tmp 40) (.tmp 48) (.con (.v (.bool false))), (some 49), none, [22, 30], none⟩]
def d35r8 : List RO := [
  ⟨.mov (.con (.v (.bool true))), (some 6), none, [], none⟩]
def d35r9 : List RO := [
  ⟨.addOff 3 (.tmp 3), (some 50), none, [], none⟩,
  ⟨.load 1 false (.tmp 50), (some 51), none, [0], none⟩,
  ⟨.mov (.tmp 0), (some 52), none, [], none⟩,
  ⟨.mov (.tmp 7), (some 53), none, [], none⟩,
  ⟨.idxAddr 5 (.tmp 52) (.tmp 53), (some 54), none, [2, 3], none⟩,
  ⟨.addOff 3 (.tmp 54), (some 55), none, [4], none⟩,
  ⟨.load 1 false (.tmp 55), (some 56), none, [5], none⟩,
  ⟨.bin .lss (.tmp 51) (.tmp 56), (some 57), none, [1, 6], none⟩]
def d35r10 : List RO := [
  ⟨.mov (.tmp 5), (some 58), none, [], none⟩,
  ⟨.load 5 true (.tmp 3), (some 59), none, [], none⟩,
  ⟨.bslice 1 5 [(.v (.int .i64 0)), (.v (.int .i64 0)), (.v (.int .i64 0)), (.v (.int .i64 0)), .nil0] [(0, 5, (.tmp 59))], (some 60), none, [1], none⟩,
  ⟨.append 42 5 56 (.tmp 58) (.tmp 60), (some 61), none, [0, 2], none⟩,
  ⟨.mov (.tmp 61), (some 5), none, [3, 3, 0, 1, 2, 3], none⟩]
def d35r11 : List RO := [
  ⟨.mov (.tmp 6), (some 62), none, [], none⟩,
  ⟨.un .not (.tmp 62), (some 63), none, [0], none⟩,
  ⟨.mov (.tmp 63), (some 64), none, [1], none⟩,
  ⟨.load 5 true (.tmp 3), (some 65), (some (64, true)), [2], none⟩,
  ⟨.mov (.tmp 0), (some 66), (some (64, true)), [2], none⟩,
  ⟨.mov (.tmp 7), (some 67), (some (64, true)), [2], none⟩,
  ⟨.idxAddr 5 (.tmp 66) (.tmp 67), (some 68), (some (64, true)), [4, 5, 2], none⟩,
  ⟨.load 5 true (.tmp 68), (some 69), (some (64, true)), [6, 2], none⟩,
  ⟨.call 42 [(.tmp 65), (.tmp 69)], (some 70), (some (64, true)), [3, 7, 2, 2], none⟩,
  ⟨.pick (.tmp 64) (.tmp 70) (.con (.v (.bool false))), (some 71), none, [2, 8], none⟩]
def d35r12 : List RO := [
  ⟨.mov (.con (.v (.bool true))), (some 6), none, [], none⟩]
def d35r13 : List RO := [
  ⟨.mov (.tmp 5), (some 72), none, [], none⟩,
  ⟨.load 5 true (.tmp 3), (some 73), none, [], none⟩,
  ⟨.bslice 1 5 [(.v (.int .i64 0)), (.v (.int .i64 0)), (.v (.int .i64 0)), (.v (.int .i64 0)), .nil0] [(0, 5, (.tmp 73))], (some 74), none, [1], none⟩,
  ⟨.append 42 5 56 (.tmp 72) (.tmp 74), (some 75), none, [0, 2], none⟩,
  ⟨.mov (.tmp 75), (some 5), none, [3, 3, 0, 1, 2, 3], none⟩]
def d35r14 : List RO := [
  ⟨.mov (.tmp 5), (some 76), none, [], none⟩,
  ⟨.mov (.tmp 0), (some 77), none, [], none⟩,
  ⟨.mov (.tmp 7), (some 78), none, [], none⟩,
  ⟨.idxAddr 5 (.tmp 77) (.tmp 78), (some 79), none, [1, 2], none⟩,
  ⟨.load 5 true (.tmp 79), (some 80), none, [3], none⟩,
  ⟨.bslice 1 5 [(.v (.int .i64 0)), (.v (.int .i64 0)), (.v (.int .i64 0)), (.v (.int .i64 0)), .nil0] [(0, 5, (.tmp 80))], (some 81), none, [4], none⟩,
  ⟨.append 42 5 56 (.tmp 76) (.tmp 81), (some 82), none, [0, 5], none⟩,
  ⟨.mov (.tmp 82), (some 5), none, [6, 6, 0, 1, 2, 3, 4, 5, 6], none⟩]
def d35r15 : List RO := [
  ⟨.mov (.tmp 7), (some 16), none, [], none⟩,
  ⟨.bin .add (.tmp 16) (.con (.v (.int .i64 1))), (some 17), none, [0], none⟩,
  ⟨.mov (.tmp 17), (some 7), none, [1, 0, 1], none⟩]
def d35r16 : List RO := [
  ⟨.mov (.tmp 6), (some 83), none, [], none⟩,
  ⟨.un .not (.tmp 83), (some 84), none, [0], none⟩]
def d35r17 : List RO := [
  ⟨.mov (.tmp 5), (some 85), none, [], none⟩,
  ⟨.load 5 true (.tmp 3), (some 86), none, [], none⟩,
  ⟨.bslice 1 5 [(.v (.int .i64 0)), (.v (.int .i64 0)), (.v (.int .i64 0)), (.v (.int .i64 0)), .nil0] [(0, 5, (.tmp 86))], (some 87), none, [1], none⟩,
  ⟨.append 42 5 56 (.tmp 85) (.tmp 87), (some 88), none, [0, 2], none⟩,
  ⟨.mov (.tmp 88), (some 5), none, [3, 3, 0, 1, 2, 3], none⟩]
def d35r18 : List RO := [
  ⟨.mov (.tmp 5), (some 89), none, [], none⟩,
  ⟨.mov (.tmp 89), (some 4), none, [0, 0], none⟩]
def d35 : DC := (.seq (.region false d35r0)
  (.seq (.seq (.region false d35r1)
  (.cond (.tmp 10) (.seq (.region false d35r2)
  .ret)
  .skip))
  (.seq (.region false d35r3)
  (.seq (.region false d35r4)
  (.seq (.seq (.region false d35r5)
  (.block 0 (.loop (.seq (.seq (.region false d35r6)
  (.cond (.tmp 15) .skip
  (.exit 0)))
  (.seq (.block 1 (.seq (.seq (.region true d35r7)
  (.cond (.tmp 49) (.seq (.region false d35r8)
  (.seq (.region true d35r9)
  (.cond (.tmp 57) (.seq (.region false d35r10)
  (.exit 1))
  .skip)))
  .skip))
  (.seq (.seq (.region true d35r11)
  (.cond (.tmp 71) (.seq (.region false d35r12)
  (.region false d35r13))
  .skip))
  (.region false d35r14))))
  (.region false d35r15))))))
  (.seq (.seq (.region false d35r16)
  (.cond (.tmp 84) (.region false d35r17)
  .skip))
  (.seq (.region false d35r18)
  .ret)))))))
def d35res : List DRes := [.slot 4]
theorem c35 [Laid] : CodeOf Tryd.prog 27 90 d35 d35res := ⟨Tryd.f27, by kernel_rfl, by kernel_rfl, by kernel_rfl, by kernel_rfl, by kernel_rfl⟩
-- emendate/emendateref37.deletes
def d37r0 : List RO := [
  ⟨.box (.tmp 1), (some 3), none, [], none⟩,
  ⟨.mov (.con .nil0), (some 4), none, [], none⟩]
def d37r1 : List RO := [
  ⟨.mov (.con .nil0), (some 5), none, [], none⟩]
def d37r2 : List RO := [
  ⟨.mov (.con (.v (.int .i64 0))), (some 6), none, [], none⟩]
def d37r3 : List RO := [
  ⟨.mov (.tmp 6), (some 7), none, [], none⟩,
  ⟨.mov (.tmp 0), (some 8), none, [], none⟩,
  ⟨.bin .lss (.tmp 7) (.tmp 8), (some 9), none, [0, 1], none⟩]
def d37r4 : List RO := [
  ⟨.mov (.tmp 5), (some 12), none, [], none⟩,
  ⟨.build [(.v (.int .i64 0)), (.v (.int .i64 0))] [(0, 1, (.con (.v (.int .i64 2))))], (some 13), none, [], none⟩,
  ⟨.bslice 1 2 [(.v (.int .i64 0)), (.v (.int .i64 0))] [(0, 2, (.tmp 13))], (some 14), none, [1], none⟩,
  ⟨.append 53 2 16 (.tmp 12) (.tmp 14), (some 15), none, [0, 2], none⟩,
  ⟨.mov (.tmp 15), (some 5), none, [3, 3, 0, 1, 2, 3], none⟩]
def d37r5 : List RO := [
  ⟨.mov (.tmp 6), (some 10), none, [], none⟩,
  ⟨.bin .add (.tmp 10) (.con (.v (.int .i64 1))), (some 11), none, [0], none⟩,
  ⟨.mov (.tmp 11), (some 6), none, [1, 0, 1], none⟩]
def d37r6 : List RO := [
  ⟨.mov (.tmp 5), (some 16), none, [], none⟩,
  ⟨.load 2 true (.tmp 3), (some 17), none, [], none⟩,
  ⟨.bslice 1 2 [(.v (.int .i64 0)), (.v (.int .i64 0))] [(0, 2, (.tmp 17))], (some 18), none, [1], none⟩,
  ⟨.append 53 2 16 (.tmp 16) (.tmp 18), (some 19), none, [0, 2], none⟩,
  ⟨.mov (.tmp 19), (some 4), none, [3, 3, 0, 1, 2, 3], none⟩]
def d37 : DC := (.seq (.region false d37r0)
  (.seq (.region false d37r1)
  (.seq (.seq (.region false d37r2)
  (.block 0 (.loop (.seq (.seq (.region false d37r3)
  (.cond (.tmp 9) .skip
  (.exit 0)))
  (.seq (.block 1 (.region false d37r4))
  (.region false d37r5))))))
  (.seq (.region false d37r6)
  .ret))))
def d37res : List DRes := [.slot 4]
theorem c37 [Laid] : CodeOf Tryd.prog 29 20 d37 d37res := ⟨Tryd.f29, by kernel_rfl, by kernel_rfl, by kernel_rfl, by kernel_rfl, by kernel_rfl⟩
-- emendate/emendateref37.Swappable
def d38r0 : List RO := [
  ⟨.box (.tmp 0), (some 2), none, [], none⟩,
  ⟨.mov (.con (.v (.bool false))), (some 4), none, [], none⟩]
def d38r1 : List RO := [
  ⟨.mov (.tmp 1), (some 5), none, [], none⟩,
  ⟨.bin .add (.tmp 5) (.con (.v (.int .i64 1))), (some 6), none, [0], none⟩,
  ⟨.addOff 0 (.tmp 2), (some 7), none, [], none⟩,
  ⟨.load 1 false (.tmp 7), (some 8), none, [2], none⟩,
  ⟨.len (.tmp 8), (some 9), none, [3], none⟩,
  ⟨.bin .lss (.tmp 6) (.tmp 9), (some 10), none, [1, 4], none⟩,
  ⟨.mov (.tmp 10), (some 11), none, [5], none⟩,
  ⟨.addOff 2 (.tmp 2), (some 12), (some (11, true)), [6], none⟩,
  ⟨.load 1 false (.tmp 12), (some 13), (some (11, true)), [7, 6], none⟩,
  ⟨.bin .gtr (.tmp 13) (.con (.v (.int .i64 0))), (some 14), (some (11, true)), [8, 6], none⟩,
  ⟨.pick (.tmp 11) (.tmp 14) (.con (.v (.bool false))), (some 15), none, [6, 9], none⟩,
  ⟨.mov (.tmp 15), (some 16), none, [10, 6], none⟩,
  ⟨.addOff 0 (.tmp 2), (some 17), (some (16, true)), [11], none⟩,
  ⟨.load 1 false (.tmp 17), (some 18), (some (16, true)), [12, 11], none⟩,
  ⟨.mov (.tmp 1), (some 19), (some (16, true)), [11], none⟩,
  ⟨.idxAddr 3 (.tmp 18) (.tmp 19), (some 20), (some (16, true)), [13, 14, 11], none⟩,
  ⟨.addOff 0 (.tmp 20), (some 21), (some (16, true)), [15, 11], none⟩,
  ⟨.load 1 false (.tmp 21), (some 22), (some (16, true)), [16, 11], none⟩,
  ⟨.bin .geq (.tmp 22) (.con (.v (.int .i64 0))), (some 23), (some (16, true)), [17, 11], none⟩,
  ⟨.pick (.tmp 16) (.tmp 23) (.con (.v (.bool false))), (some 24), none, [11, 18], none⟩,
  ⟨.mov (.tmp 24), (some 25), none, [19, 11], none⟩,
  ⟨.addOff 0 (.tmp 2), (some 26), (some (25, true)), [20], none⟩,
  ⟨.load 1 false (.tmp 26), (some 27), (some (25, true)), [21, 20], none⟩,
  ⟨.mov (.tmp 1), (some 28), (some (25, true)), [20], none⟩,
  ⟨.bin .add (.tmp 28) (.con (.v (.int .i64 1))), (some 29), (some (25, true)), [23, 20], none⟩,
  ⟨.idxAddr 3 (.tmp 27) (.tmp 29), (some 30), (some (25, true)), [22, 24, 20], none⟩,
  ⟨.addOff 0 (.tmp 30), (some 31), (some (25, true)), [25, 20], none⟩,
  ⟨.load 1 false (.tmp 31), (some 32), (some (25, true)), [26, 20], none⟩,
  ⟨.bin .geq (.tmp 32) (.con (.v (.int .i64 0))), (some 33), (some (25, true)), [27, 20], none⟩,
  ⟨.pick (.tmp 25) (.tmp 33) (.con (.v (.bool false))), (some 34), none, [20, 28], none⟩,
  ⟨.mov (.tmp 34), (some 4), none, [29, 20, 0, 1, 2, 3, 4, 5, 6, 7, 8, 9, 10, 11, 12, 13, 14, 15, 16, 17, 18, 19, 20, 21, 22, 23, 24, 25, 26, 27, 28, 29], none⟩]
def d38 : DC := (.seq (.region false d38r0)
  (.seq (.region false d38r1)
  .ret))
def d38res : List DRes := [.slot 4]
theorem c38 [Laid] : CodeOf Tryd.prog 30 35 d38 d38res := ⟨Tryd.f30, by kernel_rfl, by kernel_rfl, by kernel_rfl, by kernel_rfl, by kernel_rfl⟩
-- emendate/emendateref37.Same
def d13r0 : List RO := [
  ⟨.box (.tmp 0), (some 2), none, [], none⟩,
  ⟨.box (.tmp 1), (some 3), none, [], none⟩,
  ⟨.mov (.con (.v (.bool false))), (some 4), none, [], none⟩]
def d13r1 : List RO := [
  ⟨.addOff 0 (.tmp 2), (some 6), none, [], none⟩,
  ⟨.load 1 false (.tmp 6), (some 7), none, [0], none⟩,
  ⟨.addOff 0 (.tmp 3), (some 8), none, [], none⟩,
  ⟨.load 1 false (.tmp 8), (some 9), none, [2], none⟩,
  ⟨.bin .neq (.tmp 7) (.tmp 9), (some 10), none, [1, 3], none⟩,
  ⟨.mov (.tmp 10), (some 11), none, [4], none⟩,
  ⟨.addOff 1 (.tmp 2), (some 12), (some (11, false)), [5], none⟩,
  ⟨.load 1 false (.tmp 12), (some 13), (some (11, false)), [6, 5], none⟩,
  ⟨.len (.tmp 13), (some 14), (some (11, false)), [7, 5], none⟩,
  ⟨.addOff 1 (.tmp 3), (some 15), (some (11, false)), [5], none⟩,
  ⟨.load 1 false (.tmp 15), (some 16), (some (11, false)), [9, 5], none⟩,
  ⟨.len (.tmp 16), (some 17), (some (11, false)), [10, 5], none⟩,
  ⟨.bin .neq (.tmp 14) (.tmp 17), (some 18), (some (11, false)), [8, 11, 5], none⟩,
  ⟨.pick (.tmp 11) (.con (.v (.bool true))) (.tmp 18), (some 19), none, [5, 12], none⟩,
  ⟨.mov (.tmp 19), (some 20), none, [13, 5], none⟩,
  ⟨.addOff 2 (.tmp 2), (some 21), (some (20, false)), [14], none⟩,
  ⟨.load 1 false (.tmp 21), (some 22), (some (20, false)), [15, 14], none⟩,
  ⟨.addOff 2 (.tmp 3), (some 23), (some (20, false)), [14], none⟩,
  ⟨.load 1 false (.tmp 23), (some 24), (some (20, false)), [17, 14], none⟩,
  ⟨.call 14 [(.tmp 22), (.tmp 24)], (some 25), (some (20, false)), [16, 18, 14, 14], none⟩,
  ⟨.un .not (.tmp 25), (some 26), (some (20, false)), [19, 14], none⟩,
  ⟨.pick (.tmp 20) (.con (.v (.bool true))) (.tmp 26), (some 27), none, [14, 20], none⟩]
def d13r2 : List RO := [
  ⟨.mov (.con (.v (.bool false))), (some 4), none, [], none⟩]
def d13r3 : List RO := [
  ⟨.mov (.con (.v (.int .i64 0))), (some 5), none, [], none⟩]
def d13r4 : List RO := [
  ⟨.mov (.tmp 5), (some 28), none, [], none⟩,
  ⟨.addOff 1 (.tmp 2), (some 29), none, [], none⟩,
  ⟨.load 1 false (.tmp 29), (some 30), none, [1], none⟩,
  ⟨.len (.tmp 30), (some 31), none, [2], none⟩,
  ⟨.bin .lss (.tmp 28) (.tmp 31), (some 32), none, [0, 3], none⟩]
def d13r5 : List RO := [
  ⟨.addOff 1 (.tmp 2), (some 35), none, [], none⟩,
  ⟨.load 1 false (.tmp 35), (some 36), none, [0], none⟩,
  ⟨.mov (.tmp 5), (some 37), none, [], none⟩,
  ⟨.idxAddr 5 (.tmp 36) (.tmp 37), (some 38), none, [1, 2], none⟩,
  ⟨.load 5 true (.tmp 38), (some 39), none, [3], none⟩,
  ⟨.addOff 1 (.tmp 3), (some 40), none, [], none⟩,
  ⟨.load 1 false (.tmp 40), (some 41), none, [5], none⟩,
  ⟨.mov (.tmp 5), (some 42), none, [], none⟩,
  ⟨.idxAddr 5 (.tmp 41) (.tmp 42), (some 43), none, [6, 7], none⟩,
  ⟨.load 5 true (.tmp 43), (some 44), none, [8], none⟩,
  ⟨.call 15 [(.tmp 39), (.tmp 44)], (some 45), none, [4, 9], none⟩,
  ⟨.un .not (.tmp 45), (some 46), none, [10], none⟩]
def d13r6 : List RO := [
  ⟨.mov (.con (.v (.bool false))), (some 4), none, [], none⟩]
def d13r7 : List RO := [
  ⟨.mov (.tmp 5), (some 33), none, [], none⟩,
  ⟨.bin .add (.tmp 33) (.con (.v (.int .i64 1))), (some 34), none, [0], none⟩,
  ⟨.mov (.tmp 34), (some 5), none, [1, 0, 1], none⟩]
def d13r8 : List RO := [
  ⟨.mov (.con (.v (.bool true))), (some 4), none, [], none⟩]
def d13 : DC := (.seq (.region false d13r0)
  (.seq (.seq (.region false d13r1)
  (.cond (.tmp 27) (.seq (.region false d13r2)
  .ret)
  .skip))
  (.seq (.seq (.region false d13r3)
  (.block 0 (.loop (.seq (.seq (.region false d13r4)
  (.cond (.tmp 32) .skip
  (.exit 0)))
  (.seq (.block 1 (.seq (.region true d13r5)
  (.cond (.tmp 46) (.seq (.region false d13r6)
  .ret)
  .skip)))
  (.region false d13r7))))))
  (.seq (.region false d13r8)
  .ret))))
def d13res : List DRes := [.slot 4]
theorem c13 [Laid] : CodeOf Tryd.prog 7 47 d13 d13res := ⟨Tryd.f7, by kernel_rfl, by kernel_rfl, by kernel_rfl, by kernel_rfl, by kernel_rfl⟩

end Go.Proofs
