import Derived.Test.YtlimlhidndflhaaJ0a
import Derived.KernelRfl
import Derived.Test.YtlimlhidndflhaaMe
set_option maxRecDepth 100000

namespace Go.Proofs
open Go.DM

-- slices.pdqsortCmpFunc[emendate/lattice.key]
def d51r0 : List RO := [
  ⟨.mov (.con (.v (.bool true))), (some 10), none, [], none⟩]
def d51r1 : List RO := [
  ⟨.mov (.con (.v (.bool true))), (some 11), none, [], none⟩]
def d51r2 : List RO := [
  ⟨.mov (.tmp 2), (some 21), none, [], none⟩,
  ⟨.mov (.tmp 1), (some 22), none, [], none⟩,
  ⟨.bin .sub (.tmp 21) (.tmp 22), (some 23), none, [0, 1], none⟩,
  ⟨.mov (.tmp 23), (some 12), none, [2, 0, 1, 2], none⟩]
def d51r3 : List RO := [
  ⟨.mov (.tmp 12), (some 24), none, [], none⟩,
  ⟨.bin .leq (.tmp 24) (.con (.v (.int .i64 12))), (some 25), none, [0], none⟩]
def d51r4 : List RO := [
  ⟨.mov (.tmp 0), (some 26), none, [], none⟩,
  ⟨.mov (.tmp 1), (some 27), none, [], none⟩,
  ⟨.mov (.tmp 2), (some 28), none, [], none⟩,
  ⟨.mov (.tmp 4), (some 29), none, [], none⟩,
  ⟨.call 61 [(.tmp 26), (.tmp 27), (.tmp 28), (.tmp 29)], (some 30), none, [0, 1, 2, 3], none⟩]
def d51r4S : List RO := [
  ⟨.mov (.tmp 0), (some 26), none, [], none⟩,
  ⟨.mov (.tmp 1), (some 27), none, [], none⟩,
  ⟨.mov (.tmp 2), (some 28), none, [], none⟩,
  ⟨.mov (.tmp 4), (some 29), none, [], none⟩,
  ⟨.callS 61 [(.tmp 26), (.tmp 27), (.tmp 28), (.tmp 29)], (some 30), none, [0, 1, 2, 3], none⟩]
def d51r5 : List RO := [
  ⟨.mov (.tmp 3), (some 31), none, [], none⟩,
  ⟨.bin .eql (.tmp 31) (.con (.v (.int .i64 0))), (some 32), none, [0], none⟩]
def d51r6 : List RO := [
  ⟨.mov (.tmp 0), (some 33), none, [], none⟩,
  ⟨.mov (.tmp 1), (some 34), none, [], none⟩,
  ⟨.mov (.tmp 2), (some 35), none, [], none⟩,
  ⟨.mov (.tmp 4), (some 36), none, [], none⟩,
  ⟨.call 62 [(.tmp 33), (.tmp 34), (.tmp 35), (.tmp 36)], (some 37), none, [0, 1, 2, 3], none⟩]
def d51r6S : List RO := [
  ⟨.mov (.tmp 0), (some 33), none, [], none⟩,
  ⟨.mov (.tmp 1), (some 34), none, [], none⟩,
  ⟨.mov (.tmp 2), (some 35), none, [], none⟩,
  ⟨.mov (.tmp 4), (some 36), none, [], none⟩,
  ⟨.callS 62 [(.tmp 33), (.tmp 34), (.tmp 35), (.tmp 36)], (some 37), none, [0, 1, 2, 3], none⟩]
def d51r7 : List RO := [
  ⟨.mov (.tmp 10), (some 38), none, [], none⟩,
  ⟨.un .not (.tmp 38), (some 39), none, [0], none⟩]
def d51r8 : List RO := [
  ⟨.mov (.tmp 0), (some 40), none, [], none⟩,
  ⟨.mov (.tmp 1), (some 41), none, [], none⟩,
  ⟨.mov (.tmp 2), (some 42), none, [], none⟩,
  ⟨.mov (.tmp 4), (some 43), none, [], none⟩,
  ⟨.call 63 [(.tmp 40), (.tmp 41), (.tmp 42), (.tmp 43)], (some 44), none, [0, 1, 2, 3], none⟩]
def d51r8S : List RO := [
  ⟨.mov (.tmp 0), (some 40), none, [], none⟩,
  ⟨.mov (.tmp 1), (some 41), none, [], none⟩,
  ⟨.mov (.tmp 2), (some 42), none, [], none⟩,
  ⟨.mov (.tmp 4), (some 43), none, [], none⟩,
  ⟨.callS 63 [(.tmp 40), (.tmp 41), (.tmp 42), (.tmp 43)], (some 44), none, [0, 1, 2, 3], none⟩]
def d51r9 : List RO := [
  ⟨.mov (.tmp 3), (some 45), none, [], none⟩,
  ⟨.bin .sub (.tmp 45) (.con (.v (.int .i64 1))), (some 46), none, [0], none⟩,
  ⟨.mov (.tmp 46), (some 3), none, [1, 0, 1], none⟩]
def d51r10 : List RO := [
  ⟨.mov (.tmp 0), (some 48), none, [], none⟩,
  ⟨.mov (.tmp 1), (some 49), none, [], none⟩,
  ⟨.mov (.tmp 2), (some 50), none, [], none⟩,
  ⟨.mov (.tmp 4), (some 51), none, [], none⟩,
  ⟨.call 64 [(.tmp 48), (.tmp 49), (.tmp 50), (.tmp 51)], (some 52), none, [0, 1, 2, 3], none⟩,
  ⟨.mov (.tmp 52), (some 47), none, [4], none⟩,
  ⟨.extract 0 (.tmp 47), (some 53), none, [5], none⟩,
  ⟨.extract 1 (.tmp 47), (some 54), none, [5], none⟩,
  ⟨.mov (.tmp 53), (some 13), none, [6, 4, 0, 1, 2, 3, 4, 5, 6], none⟩,
  ⟨.mov (.tmp 54), (some 14), none, [7, 8, 0, 1, 2, 3, 4, 5, 6, 7, 8], none⟩]
def d51r10S : List RO := [
  ⟨.mov (.tmp 0), (some 48), none, [], none⟩,
  ⟨.mov (.tmp 1), (some 49), none, [], none⟩,
  ⟨.mov (.tmp 2), (some 50), none, [], none⟩,
  ⟨.mov (.tmp 4), (some 51), none, [], none⟩,
  ⟨.callS 64 [(.tmp 48), (.tmp 49), (.tmp 50), (.tmp 51)], (some 52), none, [0, 1, 2, 3], none⟩,
  ⟨.mov (.tmp 52), (some 47), none, [4], none⟩,
  ⟨.extract 0 (.tmp 47), (some 53), none, [5], none⟩,
  ⟨.extract 1 (.tmp 47), (some 54), none, [5], none⟩,
  ⟨.mov (.tmp 53), (some 13), none, [6, 4, 0, 1, 2, 3, 4, 5, 6], none⟩,
  ⟨.mov (.tmp 54), (some 14), none, [7, 8, 0, 1, 2, 3, 4, 5, 6, 7, 8], none⟩]
def d51r11 : List RO := [
  ⟨.mov (.tmp 14), (some 55), none, [], none⟩,
  ⟨.bin .eql (.tmp 55) (.con (.v (.int .i64 2))), (some 56), none, [0], none⟩]
def d51r12 : List RO := [
  ⟨.mov (.tmp 0), (some 57), none, [], none⟩,
  ⟨.mov (.tmp 1), (some 58), none, [], none⟩,
  ⟨.mov (.tmp 2), (some 59), none, [], none⟩,
  ⟨.mov (.tmp 4), (some 60), none, [], none⟩,
  ⟨.call 65 [(.tmp 57), (.tmp 58), (.tmp 59), (.tmp 60)], (some 61), none, [0, 1, 2, 3], none⟩]
def d51r12S : List RO := [
  ⟨.mov (.tmp 0), (some 57), none, [], none⟩,
  ⟨.mov (.tmp 1), (some 58), none, [], none⟩,
  ⟨.mov (.tmp 2), (some 59), none, [], none⟩,
  ⟨.mov (.tmp 4), (some 60), none, [], none⟩,
  ⟨.callS 65 [(.tmp 57), (.tmp 58), (.tmp 59), (.tmp 60)], (some 61), none, [0, 1, 2, 3], none⟩]
def d51r13 : List RO := [
  ⟨.mov (.tmp 2), (some 62), none, [], none⟩,
  ⟨.bin .sub (.tmp 62) (.con (.v (.int .i64 1))), (some 63), none, [0], none⟩,
  ⟨.mov (.tmp 13), (some 64), none, [], none⟩,
  ⟨.mov (.tmp 1), (some 65), none, [], none⟩,
  ⟨.bin .sub (.tmp 64) (.tmp 65), (some 66), none, [2, 3], none⟩,
  ⟨.bin .sub (.tmp 63) (.tmp 66), (some 67), none, [1, 4], none⟩,
  ⟨.mov (.tmp 67), (some 13), none, [5, 0, 1, 2, 3, 4, 5], none⟩]
def d51r14 : List RO := [
  ⟨.mov (.con (.v (.int .i64 1))), (some 14), none, [], none⟩]
def d51r15 : List RO := [
  ⟨.mov (.tmp 10), (some 68), none, [], none⟩,
  ⟨.mov (.tmp 68), (some 69), none, [0], none⟩,
  ⟨.mov (.tmp 11), (some 70), (some (69, true)), [1], none⟩,
  ⟨.pick (.tmp 69) (.tmp 70) (.con (.v (.bool false))), (some 71), none, [1, 2], none⟩,
  ⟨.mov (.tmp 71), (some 72), none, [3, 1], none⟩,
  ⟨.mov (.tmp 14), (some 73), (some (72, true)), [4], none⟩,
  ⟨.bin .eql (.tmp 73) (.con (.v (.int .i64 1))), (some 74), (some (72, true)), [5, 4], none⟩,
  ⟨.pick (.tmp 72) (.tmp 74) (.con (.v (.bool false))), (some 75), none, [4, 6], none⟩]
def d51r16 : List RO := [
  ⟨.mov (.tmp 0), (some 76), none, [], none⟩,
  ⟨.mov (.tmp 1), (some 77), none, [], none⟩,
  ⟨.mov (.tmp 2), (some 78), none, [], none⟩,
  ⟨.mov (.tmp 4), (some 79), none, [], none⟩,
  ⟨.call 66 [(.tmp 76), (.tmp 77), (.tmp 78), (.tmp 79)], (some 80), none, [0, 1, 2, 3], none⟩]
def d51r16S : List RO := [
  ⟨.mov (.tmp 0), (some 76), none, [], none⟩,
  ⟨.mov (.tmp 1), (some 77), none, [], none⟩,
  ⟨.mov (.tmp 2), (some 78), none, [], none⟩,
  ⟨.mov (.tmp 4), (some 79), none, [], none⟩,
  ⟨.callS 66 [(.tmp 76), (.tmp 77), (.tmp 78), (.tmp 79)], (some 80), none, [0, 1, 2, 3], none⟩]
def d51r17 : List RO := [
  ⟨.mov (.tmp 1), (some 81), none, [], none⟩,
  ⟨.bin .gtr (.tmp 81) (.con (.v (.int .i64 0))), (some 82), none, [0], none⟩,
  ⟨.mov (.tmp 82), (some 83), none, [1], none⟩,
  ⟨.mov (.tmp 4), (some 84), (some (83, true)), [2], none⟩,
  ⟨.mov (.tmp 0), (some 85), (some (83, true)), [2], none⟩,
  ⟨.mov (.tmp 1), (some 86), (some (83, true)), [2], none⟩,
  ⟨.bin .sub (.tmp 86) (.con (.v (.int .i64 1))), (some 87), (some (83, true)), [5, 2], none⟩,
  ⟨.idxAddr 3 (.tmp 85) (.tmp 87), (some 88), (some (83, true)), [4, 6, 2], none⟩,
  ⟨.load 3 true (.tmp 88), (some 89), (some (83, true)), [7, 2], none⟩,
  ⟨.mov (.tmp 0), (some 90), (some (83, true)), [2], none⟩,
  ⟨.mov (.tmp 13), (some 91), (some (83, true)), [2], none⟩,
  ⟨.idxAddr 3 (.tmp 90) (.tmp 91), (some 92), (some (83, true)), [9, 10, 2], none⟩,
  ⟨.load 3 true (.tmp 92), (some 93), (some (83, true)), [11, 2], none⟩,
  ⟨.callv (.tmp 84) [(.tmp 89), (.tmp 93)], (some 94), (some (83, true)), [3, 8, 12, 2, 2], none⟩,
  ⟨.bin .lss (.tmp 94) (.con (.v (.int .i64 0))), (some 95), (some (83, true)), [13, 2], none⟩,
  ⟨.un .not (.tmp 95), (some 96), (some (83, true)), [14, 2], none⟩,
  ⟨.pick (.tmp 83) (.tmp 96) (.con (.v (.bool false))), (some 97), none, [2, 15], none⟩]
def d51r18 : List RO := [
  ⟨.mov (.tmp 0), (some 98), none, [], none⟩,
  ⟨.mov (.tmp 1), (some 99), none, [], none⟩,
  ⟨.mov (.tmp 2), (some 100), none, [], none⟩,
  ⟨.mov (.tmp 13), (some 101), none, [], none⟩,
  ⟨.mov (.tmp 4), (some 102), none, [], none⟩,
  ⟨.call 67 [(.tmp 98), (.tmp 99), (.tmp 100), (.tmp 101), (.tmp 102)], (some 103), none, [0, 1, 2, 3, 4], none⟩,
  ⟨.mov (.tmp 103), (some 15), none, [5, 5, 0, 1, 2, 3, 4, 5], none⟩]
def d51r18S : List RO := [
  ⟨.mov (.tmp 0), (some 98), none, [], none⟩,
  ⟨.mov (.tmp 1), (some 99), none, [], none⟩,
  ⟨.mov (.tmp 2), (some 100), none, [], none⟩,
  ⟨.mov (.tmp 13), (some 101), none, [], none⟩,
  ⟨.mov (.tmp 4), (some 102), none, [], none⟩,
  ⟨.callS 67 [(.tmp 98), (.tmp 99), (.tmp 100), (.tmp 101), (.tmp 102)], (some 103), none, [0, 1, 2, 3, 4], none⟩,
  ⟨.mov (.tmp 103), (some 15), none, [5, 5, 0, 1, 2, 3, 4, 5], none⟩]
def d51r19 : List RO := [
  ⟨.mov (.tmp 15), (some 104), none, [], none⟩,
  ⟨.mov (.tmp 104), (some 1), none, [0, 0], none⟩]
def d51r20 : List RO := [
  ⟨.mov (.tmp 0), (some 106), none, [], none⟩,
  ⟨.mov (.tmp 1), (some 107), none, [], none⟩,
  ⟨.mov (.tmp 2), (some 108), none, [], none⟩,
  ⟨.mov (.tmp 13), (some 109), none, [], none⟩,
  ⟨.mov (.tmp 4), (some 110), none, [], none⟩,
  ⟨.call 68 [(.tmp 106), (.tmp 107), (.tmp 108), (.tmp 109), (.tmp 110)], (some 111), none, [0, 1, 2, 3, 4], none⟩,
  ⟨.mov (.tmp 111), (some 105), none, [5], none⟩,
  ⟨.extract 0 (.tmp 105), (some 112), none, [6], none⟩,
  ⟨.extract 1 (.tmp 105), (some 113), none, [6], none⟩,
  ⟨.mov (.tmp 112), (some 16), none, [7, 5, 0, 1, 2, 3, 4, 5, 6, 7], none⟩,
  ⟨.mov (.tmp 113), (some 17), none, [8, 9, 0, 1, 2, 3, 4, 5, 6, 7, 8, 9], none⟩]
def d51r20S : List RO := [
  ⟨.mov (.tmp 0), (some 106), none, [], none⟩,
  ⟨.mov (.tmp 1), (some 107), none, [], none⟩,
  ⟨.mov (.tmp 2), (some 108), none, [], none⟩,
  ⟨.mov (.tmp 13), (some 109), none, [], none⟩,
  ⟨.mov (.tmp 4), (some 110), none, [], none⟩,
  ⟨.callS 68 [(.tmp 106), (.tmp 107), (.tmp 108), (.tmp 109), (.tmp 110)], (some 111), none, [0, 1, 2, 3, 4], none⟩,
  ⟨.mov (.tmp 111), (some 105), none, [5], none⟩,
  ⟨.extract 0 (.tmp 105), (some 112), none, [6], none⟩,
  ⟨.extract 1 (.tmp 105), (some 113), none, [6], none⟩,
  ⟨.mov (.tmp 112), (some 16), none, [7, 5, 0, 1, 2, 3, 4, 5, 6, 7], none⟩,
  ⟨.mov (.tmp 113), (some 17), none, [8, 9, 0, 1, 2, 3, 4, 5, 6, 7, 8, 9], none⟩]
def d51r21 : List RO := [
  ⟨.mov (.tmp 17), (some 114), none, [], none⟩,
  ⟨.mov (.tmp 114), (some 11), none, [0, 0], none⟩]
def d51r22 : List RO := [
  ⟨.mov (.tmp 16), (some 115), none, [], none⟩,
  ⟨.mov (.tmp 1), (some 116), none, [], none⟩,
  ⟨.bin .sub (.tmp 115) (.tmp 116), (some 117), none, [0, 1], none⟩,
  ⟨.mov (.tmp 2), (some 118), none, [], none⟩,
  ⟨.mov (.tmp 16), (some 119), none, [], none⟩,
  ⟨.bin .sub (.tmp 118) (.tmp 119), (some 120), none, [3, 4], none⟩,
  ⟨.mov (.tmp 117), (some 18), none, [2, 0, 1, 2], none⟩,
  ⟨.mov (.tmp 120), (some 19), none, [5, 6, 0, 1, 2, 3, 4, 5, 6], none⟩]
def d51r23 : List RO := [
  ⟨.mov (.tmp 12), (some 121), none, [], none⟩,
  ⟨.bin .quo (.tmp 121) (.con (.v (.int .i64 8))), (some 122), none, [0], none⟩,
  ⟨.mov (.tmp 122), (some 20), none, [1, 0, 1], none⟩]
def d51r24 : List RO := [
  ⟨.mov (.tmp 18), (some 123), none, [], none⟩,
  ⟨.mov (.tmp 19), (some 124), none, [], none⟩,
  ⟨.bin .lss (.tmp 123) (.tmp 124), (some 125), none, [0, 1], none⟩]
def d51r25 : List RO := [
  ⟨.mov (.tmp 18), (some 126), none, [], none⟩,
  ⟨.mov (.tmp 20), (some 127), none, [], none⟩,
  ⟨.bin .geq (.tmp 126) (.tmp 127), (some 128), none, [0, 1], none⟩,
  ⟨.mov (.tmp 128), (some 10), none, [2, 0, 1, 2], none⟩]
def d51r26 : List RO := [
  ⟨.mov (.tmp 0), (some 129), none, [], none⟩,
  ⟨.mov (.tmp 1), (some 130), none, [], none⟩,
  ⟨.mov (.tmp 16), (some 131), none, [], none⟩,
  ⟨.mov (.tmp 3), (some 132), none, [], none⟩,
  ⟨.mov (.tmp 4), (some 133), none, [], none⟩,
  ⟨.call 51 [(.tmp 129), (.tmp 130), (.tmp 131), (.tmp 132), (.tmp 133)], (some 134), none, [0, 1, 2, 3, 4], none⟩]
def d51r26S : List RO := [
  ⟨.mov (.tmp 0), (some 129), none, [], none⟩,
  ⟨.mov (.tmp 1), (some 130), none, [], none⟩,
  ⟨.mov (.tmp 16), (some 131), none, [], none⟩,
  ⟨.mov (.tmp 3), (some 132), none, [], none⟩,
  ⟨.mov (.tmp 4), (some 133), none, [], none⟩,
  ⟨.callS 51 [(.tmp 129), (.tmp 130), (.tmp 131), (.tmp 132), (.tmp 133)], (some 134), none, [0, 1, 2, 3, 4], none⟩]
def d51r27 : List RO := [
  ⟨.mov (.tmp 16), (some 135), none, [], none⟩,
  ⟨.bin .add (.tmp 135) (.con (.v (.int .i64 1))), (some 136), none, [0], none⟩,
  ⟨.mov (.tmp 136), (some 1), none, [1, 0, 1], none⟩]
def d51r28 : List RO := [
  ⟨.mov (.tmp 19), (some 137), none, [], none⟩,
  ⟨.mov (.tmp 20), (some 138), none, [], none⟩,
  ⟨.bin .geq (.tmp 137) (.tmp 138), (some 139), none, [0, 1], none⟩,
  ⟨.mov (.tmp 139), (some 10), none, [2, 0, 1, 2], none⟩]
def d51r29 : List RO := [
  ⟨.mov (.tmp 0), (some 140), none, [], none⟩,
  ⟨.mov (.tmp 16), (some 141), none, [], none⟩,
  ⟨.bin .add (.tmp 141) (.con (.v (.int .i64 1))), (some 142), none, [1], none⟩,
  ⟨.mov (.tmp 2), (some 143), none, [], none⟩,
  ⟨.mov (.tmp 3), (some 144), none, [], none⟩,
  ⟨.mov (.tmp 4), (some 145), none, [], none⟩,
  ⟨.call 51 [(.tmp 140), (.tmp 142), (.tmp 143), (.tmp 144), (.tmp 145)], (some 146), none, [0, 2, 3, 4, 5], none⟩]
def d51r29S : List RO := [
  ⟨.mov (.tmp 0), (some 140), none, [], none⟩,
  ⟨.mov (.tmp 16), (some 141), none, [], none⟩,
  ⟨.bin .add (.tmp 141) (.con (.v (.int .i64 1))), (some 142), none, [1], none⟩,
  ⟨.mov (.tmp 2), (some 143), none, [], none⟩,
  ⟨.mov (.tmp 3), (some 144), none, [], none⟩,
  ⟨.mov (.tmp 4), (some 145), none, [], none⟩,
  ⟨.callS 51 [(.tmp 140), (.tmp 142), (.tmp 143), (.tmp 144), (.tmp 145)], (some 146), none, [0, 2, 3, 4, 5], none⟩]
def d51r30 : List RO := [
  ⟨.mov (.tmp 16), (some 147), none, [], none⟩,
  ⟨.mov (.tmp 147), (some 2), none, [0, 0], none⟩]
def d51 : DC := (.seq (.region false d51r0)
  (.seq (.region false d51r1)
  (.block 0 (.loop (.block 1 (.seq (.region false d51r2)
  (.seq (.seq (.region false d51r3)
  (.cond (.tmp 25) (.seq (.region false d51r4)
  .ret)
  .skip))
  (.seq (.seq (.region false d51r5)
  (.cond (.tmp 32) (.seq (.region false d51r6)
  .ret)
  .skip))
  (.seq (.seq (.region false d51r7)
  (.cond (.tmp 39) (.seq (.region false d51r8)
  (.region false d51r9))
  .skip))
  (.seq (.region false d51r10)
  (.seq (.seq (.region false d51r11)
  (.cond (.tmp 56) (.seq (.region false d51r12)
  (.seq (.region false d51r13)
  (.region false d51r14)))
  .skip))
  (.seq (.seq (.region false d51r15)
  (.cond (.tmp 75) (.seq (.region false d51r16)
  (.cond (.tmp 80) .ret
  .skip))
  .skip))
  (.seq (.seq (.region true d51r17)
  (.cond (.tmp 97) (.seq (.region false d51r18)
  (.seq (.region false d51r19)
  (.exit 1)))
  .skip))
  (.seq (.region false d51r20)
  (.seq (.region false d51r21)
  (.seq (.region false d51r22)
  (.seq (.region false d51r23)
  (.seq (.region false d51r24)
  (.cond (.tmp 125) (.seq (.region false d51r25)
  (.seq (.region false d51r26)
  (.region false d51r27)))
  (.seq (.region false d51r28)
  (.seq (.region false d51r29)
  (.region false d51r30))))))))))))))))))))))
def d51res : List DRes := []
theorem c51 : CodeOf Try.prog 51 148 d51 d51res := ⟨Try.f51, by kernel_rfl, by kernel_rfl, by kernel_rfl, by kernel_rfl, by kernel_rfl⟩
-- slices.heapSortCmpFunc[emendate/lattice.key]
def d62r0 : List RO := [
  ⟨.mov (.tmp 1), (some 13), none, [], none⟩,
  ⟨.mov (.tmp 13), (some 8), none, [0, 0], none⟩]
def d62r1 : List RO := [
  ⟨.mov (.con (.v (.int .i64 0))), (some 9), none, [], none⟩]
def d62r2 : List RO := [
  ⟨.mov (.tmp 2), (some 14), none, [], none⟩,
  ⟨.mov (.tmp 1), (some 15), none, [], none⟩,
  ⟨.bin .sub (.tmp 14) (.tmp 15), (some 16), none, [0, 1], none⟩,
  ⟨.mov (.tmp 16), (some 10), none, [2, 0, 1, 2], none⟩]
def d62r3 : List RO := [
  ⟨.mov (.tmp 10), (some 17), none, [], none⟩,
  ⟨.bin .sub (.tmp 17) (.con (.v (.int .i64 1))), (some 18), none, [0], none⟩,
  ⟨.bin .quo (.tmp 18) (.con (.v (.int .i64 2))), (some 19), none, [1], none⟩,
  ⟨.mov (.tmp 19), (some 11), none, [2, 0, 1, 2], none⟩]
def d62r4 : List RO := [
  ⟨.mov (.tmp 11), (some 20), none, [], none⟩,
  ⟨.bin .geq (.tmp 20) (.con (.v (.int .i64 0))), (some 21), none, [0], none⟩]
def d62r5 : List RO := [
  ⟨.mov (.tmp 0), (some 24), none, [], none⟩,
  ⟨.mov (.tmp 11), (some 25), none, [], none⟩,
  ⟨.mov (.tmp 10), (some 26), none, [], none⟩,
  ⟨.mov (.tmp 8), (some 27), none, [], none⟩,
  ⟨.mov (.tmp 3), (some 28), none, [], none⟩,
  ⟨.call 75 [(.tmp 24), (.tmp 25), (.tmp 26), (.tmp 27), (.tmp 28)], (some 29), none, [0, 1, 2, 3, 4], none⟩]
def d62r5S : List RO := [
  ⟨.mov (.tmp 0), (some 24), none, [], none⟩,
  ⟨.mov (.tmp 11), (some 25), none, [], none⟩,
  ⟨.mov (.tmp 10), (some 26), none, [], none⟩,
  ⟨.mov (.tmp 8), (some 27), none, [], none⟩,
  ⟨.mov (.tmp 3), (some 28), none, [], none⟩,
  ⟨.callS 75 [(.tmp 24), (.tmp 25), (.tmp 26), (.tmp 27), (.tmp 28)], (some 29), none, [0, 1, 2, 3, 4], none⟩]
def d62r6 : List RO := [
  ⟨.mov (.tmp 11), (some 22), none, [], none⟩,
  ⟨.bin .sub (.tmp 22) (.con (.v (.int .i64 1))), (some 23), none, [0], none⟩,
  ⟨.mov (.tmp 23), (some 11), none, [1, 0, 1], none⟩]
def d62r7 : List RO := [
  ⟨.mov (.tmp 10), (some 30), none, [], none⟩,
  ⟨.bin .sub (.tmp 30) (.con (.v (.int .i64 1))), (some 31), none, [0], none⟩,
  ⟨.mov (.tmp 31), (some 12), none, [1, 0, 1], none⟩]
def d62r8 : List RO := [
  ⟨.mov (.tmp 12), (some 32), none, [], none⟩,
  ⟨.bin .geq (.tmp 32) (.con (.v (.int .i64 0))), (some 33), none, [0], none⟩]
def d62r9 : List RO := [
  ⟨.mov (.tmp 0), (some 36), none, [], none⟩,
  ⟨.mov (.tmp 8), (some 37), none, [], none⟩,
  ⟨.mov (.tmp 0), (some 38), none, [], none⟩,
  ⟨.mov (.tmp 8), (some 39), none, [], none⟩,
  ⟨.mov (.tmp 12), (some 40), none, [], none⟩,
  ⟨.bin .add (.tmp 39) (.tmp 40), (some 41), none, [3, 4], none⟩,
  ⟨.mov (.tmp 0), (some 42), none, [], none⟩,
  ⟨.mov (.tmp 8), (some 43), none, [], none⟩,
  ⟨.mov (.tmp 12), (some 44), none, [], none⟩,
  ⟨.bin .add (.tmp 43) (.tmp 44), (some 45), none, [7, 8], none⟩,
  ⟨.idxAddr 3 (.tmp 42) (.tmp 45), (some 46), none, [6, 9], none⟩,
  ⟨.load 3 true (.tmp 46), (some 47), none, [10], none⟩,
  ⟨.mov (.tmp 0), (some 48), none, [], none⟩,
  ⟨.mov (.tmp 8), (some 49), none, [], none⟩,
  ⟨.idxAddr 3 (.tmp 48) (.tmp 49), (some 50), none, [12, 13], none⟩,
  ⟨.load 3 true (.tmp 50), (some 51), none, [14], none⟩,
  ⟨.idxAddr 3 (.tmp 36) (.tmp 37), (some 52), none, [0, 1, 0, 1, 6, 7, 8, 9, 10, 11, 15], none⟩,
  ⟨.store 3 (.tmp 52) (.tmp 47), none, none, [16, 11, 0, 1, 6, 7, 8, 9, 10, 11, 15], none⟩,
  ⟨.idxAddr 3 (.tmp 38) (.tmp 41), (some 53), none, [2, 5, 0, 1, 2, 3, 4, 5, 6, 7, 8, 9, 10, 11, 12, 13, 14, 15, 16, 17], none⟩,
  ⟨.store 3 (.tmp 53) (.tmp 51), none, none, [18, 15, 17, 0, 1, 2, 3, 4, 5, 6, 7, 8, 9, 10, 11, 12, 13, 14, 15, 16, 17], none⟩]
def d62r10 : List RO := [
  ⟨.mov (.tmp 0), (some 54), none, [], none⟩,
  ⟨.mov (.tmp 9), (some 55), none, [], none⟩,
  ⟨.mov (.tmp 12), (some 56), none, [], none⟩,
  ⟨.mov (.tmp 8), (some 57), none, [], none⟩,
  ⟨.mov (.tmp 3), (some 58), none, [], none⟩,
  ⟨.call 75 [(.tmp 54), (.tmp 55), (.tmp 56), (.tmp 57), (.tmp 58)], (some 59), none, [0, 1, 2, 3, 4], none⟩]
def d62r10S : List RO := [
  ⟨.mov (.tmp 0), (some 54), none, [], none⟩,
  ⟨.mov (.tmp 9), (some 55), none, [], none⟩,
  ⟨.mov (.tmp 12), (some 56), none, [], none⟩,
  ⟨.mov (.tmp 8), (some 57), none, [], none⟩,
  ⟨.mov (.tmp 3), (some 58), none, [], none⟩,
  ⟨.callS 75 [(.tmp 54), (.tmp 55), (.tmp 56), (.tmp 57), (.tmp 58)], (some 59), none, [0, 1, 2, 3, 4], none⟩]
def d62r11 : List RO := [
  ⟨.mov (.tmp 12), (some 34), none, [], none⟩,
  ⟨.bin .sub (.tmp 34) (.con (.v (.int .i64 1))), (some 35), none, [0], none⟩,
  ⟨.mov (.tmp 35), (some 12), none, [1, 0, 1], none⟩]
def d62 : DC := (.seq (.region false d62r0)
  (.seq (.region false d62r1)
  (.seq (.region false d62r2)
  (.seq (.seq (.region false d62r3)
  (.block 0 (.loop (.seq (.seq (.region false d62r4)
  (.cond (.tmp 21) .skip
  (.exit 0)))
  (.seq (.block 1 (.region false d62r5))
  (.region false d62r6))))))
  (.seq (.region false d62r7)
  (.block 2 (.loop (.seq (.seq (.region false d62r8)
  (.cond (.tmp 33) .skip
  (.exit 2)))
  (.seq (.block 3 (.seq (.region true d62r9)
  (.region false d62r10)))
  (.region false d62r11))))))))))
def d62res : List DRes := []
theorem c62 : CodeOf Try.prog 62 60 d62 d62res := ⟨Try.f62, by kernel_rfl, by kernel_rfl, by kernel_rfl, by kernel_rfl, by kernel_rfl⟩
-- slices.breakPatternsCmpFunc[emendate/lattice.key]
def d63r0 : List RO := [
  ⟨.mov (.tmp 2), (some 13), none, [], none⟩,
  ⟨.mov (.tmp 1), (some 14), none, [], none⟩,
  ⟨.bin .sub (.tmp 13) (.tmp 14), (some 15), none, [0, 1], none⟩,
  ⟨.mov (.tmp 15), (some 8), none, [2, 0, 1, 2], none⟩]
def d63r1 : List RO := [
  ⟨.mov (.tmp 8), (some 16), none, [], none⟩,
  ⟨.bin .geq (.tmp 16) (.con (.v (.int .i64 8))), (some 17), none, [0], none⟩]
def d63r2 : List RO := [
  ⟨.mov (.tmp 8), (some 18), none, [], none⟩,
  ⟨.conv .u64 (.tmp 18), (some 19), none, [0], none⟩,
  ⟨.alloc [(.v (.int .u64 0))], (some 9), none, [], none⟩,
  ⟨.store 1 (.tmp 9) (.tmp 19), none, none, [2, 1, 0, 1, 2], none⟩]
def d63r3 : List RO := [
  ⟨.mov (.tmp 8), (some 20), none, [], none⟩,
  ⟨.call 76 [(.tmp 20)], (some 21), none, [0], none⟩,
  ⟨.mov (.tmp 21), (some 10), none, [1, 1, 0, 1], none⟩]
def d63r4 : List RO := [
  ⟨.mov (.tmp 1), (some 22), none, [], none⟩,
  ⟨.mov (.tmp 8), (some 23), none, [], none⟩,
  ⟨.bin .quo (.tmp 23) (.con (.v (.int .i64 4))), (some 24), none, [1], none⟩,
  ⟨.bin .mul (.tmp 24) (.con (.v (.int .i64 2))), (some 25), none, [2], none⟩,
  ⟨.bin .add (.tmp 22) (.tmp 25), (some 26), none, [0, 3], none⟩,
  ⟨.bin .sub (.tmp 26) (.con (.v (.int .i64 1))), (some 27), none, [4], none⟩,
  ⟨.mov (.tmp 27), (some 11), none, [5, 0, 1, 2, 3, 4, 5], none⟩]
def d63r5 : List RO := [
  ⟨.mov (.tmp 11), (some 28), none, [], none⟩,
  ⟨.mov (.tmp 1), (some 29), none, [], none⟩,
  ⟨.mov (.tmp 8), (some 30), none, [], none⟩,
  ⟨.bin .quo (.tmp 30) (.con (.v (.int .i64 4))), (some 31), none, [2], none⟩,
  ⟨.bin .mul (.tmp 31) (.con (.v (.int .i64 2))), (some 32), none, [3], none⟩,
  ⟨.bin .add (.tmp 29) (.tmp 32), (some 33), none, [1, 4], none⟩,
  ⟨.bin .add (.tmp 33) (.con (.v (.int .i64 1))), (some 34), none, [5], none⟩,
  ⟨.bin .leq (.tmp 28) (.tmp 34), (some 35), none, [0, 6], none⟩]
def d63r6 : List RO := [
  ⟨.call 77 [(.tmp 9)], (some 38), none, [], none⟩,
  ⟨.mov (.tmp 10), (some 39), none, [], none⟩,
  ⟨.bin .sub (.tmp 39) (.con (.v (.int .u64 1))), (some 40), none, [1], none⟩,
  ⟨.bin .and (.tmp 38) (.tmp 40), (some 41), none, [0, 2], none⟩,
  ⟨.conv .i64 (.tmp 41), (some 42), none, [3], none⟩,
  ⟨.mov (.tmp 42), (some 12), none, [4, 0, 0, 1, 2, 3, 4], none⟩]
def d63r6S : List RO := [
  ⟨.callS 77 [(.tmp 9)], (some 38), none, [], none⟩,
  ⟨.mov (.tmp 10), (some 39), none, [], none⟩,
  ⟨.bin .sub (.tmp 39) (.con (.v (.int .u64 1))), (some 40), none, [1], none⟩,
  ⟨.bin .and (.tmp 38) (.tmp 40), (some 41), none, [0, 2], none⟩,
  ⟨.conv .i64 (.tmp 41), (some 42), none, [3], none⟩,
  ⟨.mov (.tmp 42), (some 12), none, [4, 0, 0, 1, 2, 3, 4], none⟩]
def d63r7 : List RO := [
  ⟨.mov (.tmp 12), (some 43), none, [], none⟩,
  ⟨.mov (.tmp 8), (some 44), none, [], none⟩,
  ⟨.bin .geq (.tmp 43) (.tmp 44), (some 45), none, [0, 1], none⟩]
def d63r8 : List RO := [
  ⟨.mov (.tmp 12), (some 46), none, [], none⟩,
  ⟨.mov (.tmp 8), (some 47), none, [], none⟩,
  ⟨.bin .sub (.tmp 46) (.tmp 47), (some 48), none, [0, 1], none⟩,
  ⟨.mov (.tmp 48), (some 12), none, [2, 0, 1, 2], none⟩]
def d63r9 : List RO := [
  ⟨.mov (.tmp 0), (some 49), none, [], none⟩,
  ⟨.mov (.tmp 11), (some 50), none, [], none⟩,
  ⟨.mov (.tmp 0), (some 51), none, [], none⟩,
  ⟨.mov (.tmp 1), (some 52), none, [], none⟩,
  ⟨.mov (.tmp 12), (some 53), none, [], none⟩,
  ⟨.bin .add (.tmp 52) (.tmp 53), (some 54), none, [3, 4], none⟩,
  ⟨.mov (.tmp 0), (some 55), none, [], none⟩,
  ⟨.mov (.tmp 1), (some 56), none, [], none⟩,
  ⟨.mov (.tmp 12), (some 57), none, [], none⟩,
  ⟨.bin .add (.tmp 56) (.tmp 57), (some 58), none, [7, 8], none⟩,
  ⟨.idxAddr 3 (.tmp 55) (.tmp 58), (some 59), none, [6, 9], none⟩,
  ⟨.load 3 true (.tmp 59), (some 60), none, [10], none⟩,
  ⟨.mov (.tmp 0), (some 61), none, [], none⟩,
  ⟨.mov (.tmp 11), (some 62), none, [], none⟩,
  ⟨.idxAddr 3 (.tmp 61) (.tmp 62), (some 63), none, [12, 13], none⟩,
  ⟨.load 3 true (.tmp 63), (some 64), none, [14], none⟩,
  ⟨.idxAddr 3 (.tmp 49) (.tmp 50), (some 65), none, [0, 1, 0, 1, 6, 7, 8, 9, 10, 11, 15], none⟩,
  ⟨.store 3 (.tmp 65) (.tmp 60), none, none, [16, 11, 0, 1, 6, 7, 8, 9, 10, 11, 15], none⟩,
  ⟨.idxAddr 3 (.tmp 51) (.tmp 54), (some 66), none, [2, 5, 0, 1, 2, 3, 4, 5, 6, 7, 8, 9, 10, 11, 12, 13, 14, 15, 16, 17], none⟩,
  ⟨.store 3 (.tmp 66) (.tmp 64), none, none, [18, 15, 17, 0, 1, 2, 3, 4, 5, 6, 7, 8, 9, 10, 11, 12, 13, 14, 15, 16, 17], none⟩]
def d63r10 : List RO := [
  ⟨.mov (.tmp 11), (some 36), none, [], none⟩,
  ⟨.bin .add (.tmp 36) (.con (.v (.int .i64 1))), (some 37), none, [0], none⟩,
  ⟨.mov (.tmp 37), (some 11), none, [1, 0, 1], none⟩]
def d63 : DC := (.seq (.region false d63r0)
  (.seq (.region false d63r1)
  (.cond (.tmp 17) (.seq (.region false d63r2)
  (.seq (.region false d63r3)
  (.seq (.region false d63r4)
  (.block 0 (.loop (.seq (.seq (.region false d63r5)
  (.cond (.tmp 35) .skip
  (.exit 0)))
  (.seq (.block 1 (.seq (.region false d63r6)
  (.seq (.seq (.region false d63r7)
  (.cond (.tmp 45) (.region false d63r8)
  .skip))
  (.region true d63r9))))
  (.region false d63r10))))))))
  .skip)))
def d63res : List DRes := []
theorem c63 : CodeOf Try.prog 63 67 d63 d63res := ⟨Try.f63, by kernel_rfl, by kernel_rfl, by kernel_rfl, by kernel_rfl, by kernel_rfl⟩
-- slices.choosePivotCmpFunc[emendate/lattice.key]
def d64r0 : List RO := [
  ⟨.mov (.con (.v (.int .i64 0))), (some 8), none, [], none⟩,
  ⟨.mov (.con (.v (.int .i64 0))), (some 9), none, [0], none⟩]
def d64r1 : List RO := [
  ⟨.mov (.tmp 2), (some 15), none, [], none⟩,
  ⟨.mov (.tmp 1), (some 16), none, [], none⟩,
  ⟨.bin .sub (.tmp 15) (.tmp 16), (some 17), none, [0, 1], none⟩,
  ⟨.mov (.tmp 17), (some 10), none, [2, 0, 1, 2], none⟩]
def d64r2 : List RO := [
  ⟨.alloc [(.v (.int .i64 0))], (some 11), none, [], none⟩]
def d64r3 : List RO := [
  ⟨.mov (.tmp 1), (some 18), none, [], none⟩,
  ⟨.mov (.tmp 10), (some 19), none, [], none⟩,
  ⟨.bin .quo (.tmp 19) (.con (.v (.int .i64 4))), (some 20), none, [1], none⟩,
  ⟨.bin .mul (.tmp 20) (.con (.v (.int .i64 1))), (some 21), none, [2], none⟩,
  ⟨.bin .add (.tmp 18) (.tmp 21), (some 22), none, [0, 3], none⟩,
  ⟨.mov (.tmp 22), (some 12), none, [4, 0, 1, 2, 3, 4], none⟩]
def d64r4 : List RO := [
  ⟨.mov (.tmp 1), (some 23), none, [], none⟩,
  ⟨.mov (.tmp 10), (some 24), none, [], none⟩,
  ⟨.bin .quo (.tmp 24) (.con (.v (.int .i64 4))), (some 25), none, [1], none⟩,
  ⟨.bin .mul (.tmp 25) (.con (.v (.int .i64 2))), (some 26), none, [2], none⟩,
  ⟨.bin .add (.tmp 23) (.tmp 26), (some 27), none, [0, 3], none⟩,
  ⟨.mov (.tmp 27), (some 13), none, [4, 0, 1, 2, 3, 4], none⟩]
def d64r5 : List RO := [
  ⟨.mov (.tmp 1), (some 28), none, [], none⟩,
  ⟨.mov (.tmp 10), (some 29), none, [], none⟩,
  ⟨.bin .quo (.tmp 29) (.con (.v (.int .i64 4))), (some 30), none, [1], none⟩,
  ⟨.bin .mul (.tmp 30) (.con (.v (.int .i64 3))), (some 31), none, [2], none⟩,
  ⟨.bin .add (.tmp 28) (.tmp 31), (some 32), none, [0, 3], none⟩,
  ⟨.mov (.tmp 32), (some 14), none, [4, 0, 1, 2, 3, 4], none⟩]
def d64r6 : List RO := [
  ⟨.mov (.tmp 10), (some 33), none, [], none⟩,
  ⟨.bin .geq (.tmp 33) (.con (.v (.int .i64 8))), (some 34), none, [0], none⟩]
def d64r7 : List RO := [
  ⟨.mov (.tmp 10), (some 35), none, [], none⟩,
  ⟨.bin .geq (.tmp 35) (.con (.v (.int .i64 50))), (some 36), none, [0], none⟩]
def d64r8 : List RO := [
  ⟨.mov (.tmp 0), (some 37), none, [], none⟩,
  ⟨.mov (.tmp 12), (some 38), none, [], none⟩,
  ⟨.mov (.tmp 3), (some 39), none, [], none⟩,
  ⟨.call 78 [(.tmp 37), (.tmp 38), (.tmp 11), (.tmp 39)], (some 40), none, [0, 1, 2], none⟩,
  ⟨.mov (.tmp 40), (some 12), none, [3, 3, 0, 1, 2, 3], none⟩]
def d64r8S : List RO := [
  ⟨.mov (.tmp 0), (some 37), none, [], none⟩,
  ⟨.mov (.tmp 12), (some 38), none, [], none⟩,
  ⟨.mov (.tmp 3), (some 39), none, [], none⟩,
  ⟨.callS 78 [(.tmp 37), (.tmp 38), (.tmp 11), (.tmp 39)], (some 40), none, [0, 1, 2], none⟩,
  ⟨.mov (.tmp 40), (some 12), none, [3, 3, 0, 1, 2, 3], none⟩]
def d64r9 : List RO := [
  ⟨.mov (.tmp 0), (some 41), none, [], none⟩,
  ⟨.mov (.tmp 13), (some 42), none, [], none⟩,
  ⟨.mov (.tmp 3), (some 43), none, [], none⟩,
  ⟨.call 78 [(.tmp 41), (.tmp 42), (.tmp 11), (.tmp 43)], (some 44), none, [0, 1, 2], none⟩,
  ⟨.mov (.tmp 44), (some 13), none, [3, 3, 0, 1, 2, 3], none⟩]
def d64r9S : List RO := [
  ⟨.mov (.tmp 0), (some 41), none, [], none⟩,
  ⟨.mov (.tmp 13), (some 42), none, [], none⟩,
  ⟨.mov (.tmp 3), (some 43), none, [], none⟩,
  ⟨.callS 78 [(.tmp 41), (.tmp 42), (.tmp 11), (.tmp 43)], (some 44), none, [0, 1, 2], none⟩,
  ⟨.mov (.tmp 44), (some 13), none, [3, 3, 0, 1, 2, 3], none⟩]
def d64r10 : List RO := [
  ⟨.mov (.tmp 0), (some 45), none, [], none⟩,
  ⟨.mov (.tmp 14), (some 46), none, [], none⟩,
  ⟨.mov (.tmp 3), (some 47), none, [], none⟩,
  ⟨.call 78 [(.tmp 45), (.tmp 46), (.tmp 11), (.tmp 47)], (some 48), none, [0, 1, 2], none⟩,
  ⟨.mov (.tmp 48), (some 14), none, [3, 3, 0, 1, 2, 3], none⟩]
def d64r10S : List RO := [
  ⟨.mov (.tmp 0), (some 45), none, [], none⟩,
  ⟨.mov (.tmp 14), (some 46), none, [], none⟩,
  ⟨.mov (.tmp 3), (some 47), none, [], none⟩,
  ⟨.callS 78 [(.tmp 45), (.tmp 46), (.tmp 11), (.tmp 47)], (some 48), none, [0, 1, 2], none⟩,
  ⟨.mov (.tmp 48), (some 14), none, [3, 3, 0, 1, 2, 3], none⟩]
def d64r11 : List RO := [
  ⟨.mov (.tmp 0), (some 49), none, [], none⟩,
  ⟨.mov (.tmp 12), (some 50), none, [], none⟩,
  ⟨.mov (.tmp 13), (some 51), none, [], none⟩,
  ⟨.mov (.tmp 14), (some 52), none, [], none⟩,
  ⟨.mov (.tmp 3), (some 53), none, [], none⟩,
  ⟨.call 79 [(.tmp 49), (.tmp 50), (.tmp 51), (.tmp 52), (.tmp 11), (.tmp 53)], (some 54), none, [0, 1, 2, 3, 4], none⟩,
  ⟨.mov (.tmp 54), (some 13), none, [5, 5, 0, 1, 2, 3, 4, 5], none⟩]
def d64r11S : List RO := [
  ⟨.mov (.tmp 0), (some 49), none, [], none⟩,
  ⟨.mov (.tmp 12), (some 50), none, [], none⟩,
  ⟨.mov (.tmp 13), (some 51), none, [], none⟩,
  ⟨.mov (.tmp 14), (some 52), none, [], none⟩,
  ⟨.mov (.tmp 3), (some 53), none, [], none⟩,
  ⟨.callS 79 [(.tmp 49), (.tmp 50), (.tmp 51), (.tmp 52), (.tmp 11), (.tmp 53)], (some 54), none, [0, 1, 2, 3, 4], none⟩,
  ⟨.mov (.tmp 54), (some 13), none, [5, 5, 0, 1, 2, 3, 4, 5], none⟩]
def d64r12 : List RO := [
  ⟨.load 1 false (.tmp 11), (some 55), none, [], none⟩]
def d64r13 : List RO := [
  ⟨.bin .eql (.tmp 55) (.con (.v (.int .i64 0))), (some 58), none, [], none⟩,
  ⟨.mov (.tmp 58), (some 57), none, [0], none⟩]
def d64r14 : List RO := [
  ⟨.mov (.tmp 13), (some 59), none, [], none⟩,
  ⟨.mov (.tmp 59), (some 8), none, [0, 0], none⟩,
  ⟨.mov (.con (.v (.int .i64 1))), (some 9), none, [1, 0, 1], none⟩]
def d64r15 : List RO := [
  ⟨.bin .eql (.tmp 55) (.con (.v (.int .i64 12))), (some 61), none, [], none⟩,
  ⟨.mov (.tmp 61), (some 60), none, [0], none⟩]
def d64r16 : List RO := [
  ⟨.mov (.tmp 13), (some 62), none, [], none⟩,
  ⟨.mov (.tmp 62), (some 8), none, [0, 0], none⟩,
  ⟨.mov (.con (.v (.int .i64 2))), (some 9), none, [1, 0, 1], none⟩]
def d64r17 : List RO := [
  ⟨.mov (.tmp 13), (some 56), none, [], none⟩,
  ⟨.mov (.tmp 56), (some 8), none, [0, 0], none⟩,
  ⟨.mov (.con (.v (.int .i64 0))), (some 9), none, [1, 0, 1], none⟩]
def d64 : DC := (.seq (.region false d64r0)
  (.seq (.region false d64r1)
  (.seq (.region false d64r2)
  (.seq (.region false d64r3)
  (.seq (.region false d64r4)
  (.seq (.region false d64r5)
  (.seq (.seq (.region false d64r6)
  (.cond (.tmp 34) (.seq (.seq (.region false d64r7)
  (.cond (.tmp 36) (.seq (.region false d64r8)
  (.seq (.region false d64r9)
  (.region false d64r10)))
  .skip))
  (.region false d64r11))
  .skip))
  (.seq (.region false d64r12)
  (.block 0 (.seq (.region false d64r13)
  (.cond (.tmp 57) (.seq (.region false d64r14)
  .ret)
  (.seq (.region false d64r15)
  (.cond (.tmp 60) (.seq (.region false d64r16)
  .ret)
  (.seq (.region false d64r17)
  .ret))))))))))))))
def d64res : List DRes := [.slot 8, .slot 9]
theorem c64 : CodeOf Try.prog 64 63 d64 d64res := ⟨Try.f64, by kernel_rfl, by kernel_rfl, by kernel_rfl, by kernel_rfl, by kernel_rfl⟩
-- slices.reverseRangeCmpFunc[emendate/lattice.key]
def d65r0 : List RO := [
  ⟨.mov (.tmp 1), (some 10), none, [], none⟩,
  ⟨.mov (.tmp 10), (some 8), none, [0, 0], none⟩]
def d65r1 : List RO := [
  ⟨.mov (.tmp 2), (some 11), none, [], none⟩,
  ⟨.bin .sub (.tmp 11) (.con (.v (.int .i64 1))), (some 12), none, [0], none⟩,
  ⟨.mov (.tmp 12), (some 9), none, [1, 0, 1], none⟩]
def d65r2 : List RO := [
  ⟨.mov (.tmp 8), (some 13), none, [], none⟩,
  ⟨.mov (.tmp 9), (some 14), none, [], none⟩,
  ⟨.bin .lss (.tmp 13) (.tmp 14), (some 15), none, [0, 1], none⟩]
def d65r3 : List RO := [
  ⟨.mov (.tmp 0), (some 16), none, [], none⟩,
  ⟨.mov (.tmp 8), (some 17), none, [], none⟩,
  ⟨.mov (.tmp 0), (some 18), none, [], none⟩,
  ⟨.mov (.tmp 9), (some 19), none, [], none⟩,
  ⟨.mov (.tmp 0), (some 20), none, [], none⟩,
  ⟨.mov (.tmp 9), (some 21), none, [], none⟩,
  ⟨.idxAddr 3 (.tmp 20) (.tmp 21), (some 22), none, [4, 5], none⟩,
  ⟨.load 3 true (.tmp 22), (some 23), none, [6], none⟩,
  ⟨.mov (.tmp 0), (some 24), none, [], none⟩,
  ⟨.mov (.tmp 8), (some 25), none, [], none⟩,
  ⟨.idxAddr 3 (.tmp 24) (.tmp 25), (some 26), none, [8, 9], none⟩,
  ⟨.load 3 true (.tmp 26), (some 27), none, [10], none⟩,
  ⟨.idxAddr 3 (.tmp 16) (.tmp 17), (some 28), none, [0, 1, 0, 1, 4, 5, 6, 7, 11], none⟩,
  ⟨.store 3 (.tmp 28) (.tmp 23), none, none, [12, 7, 0, 1, 4, 5, 6, 7, 11], none⟩,
  ⟨.idxAddr 3 (.tmp 18) (.tmp 19), (some 29), none, [2, 3, 0, 1, 2, 3, 4, 5, 6, 7, 8, 9, 10, 11, 12, 13], none⟩,
  ⟨.store 3 (.tmp 29) (.tmp 27), none, none, [14, 11, 13, 0, 1, 2, 3, 4, 5, 6, 7, 8, 9, 10, 11, 12, 13], none⟩]
def d65r4 : List RO := [
  ⟨.mov (.tmp 8), (some 30), none, [], none⟩,
  ⟨.bin .add (.tmp 30) (.con (.v (.int .i64 1))), (some 31), none, [0], none⟩,
  ⟨.mov (.tmp 31), (some 8), none, [1, 0, 1], none⟩]
def d65r5 : List RO := [
  ⟨.mov (.tmp 9), (some 32), none, [], none⟩,
  ⟨.bin .sub (.tmp 32) (.con (.v (.int .i64 1))), (some 33), none, [0], none⟩,
  ⟨.mov (.tmp 33), (some 9), none, [1, 0, 1], none⟩]
def d65 : DC := (.seq (.region false d65r0)
  (.seq (.region false d65r1)
  (.block 0 (.loop (.seq (.seq (.region false d65r2)
  (.cond (.tmp 15) .skip
  (.exit 0)))
  (.block 1 (.seq (.region true d65r3)
  (.seq (.region false d65r4)
  (.region false d65r5)))))))))
def d65res : List DRes := []
theorem c65 : CodeOf Try.prog 65 34 d65 d65res := ⟨Try.f65, by kernel_rfl, by kernel_rfl, by kernel_rfl, by kernel_rfl, by kernel_rfl⟩
-- slices.partialInsertionSortCmpFunc[emendate/lattice.key]
def d66r0 : List RO := [
  ⟨.mov (.con (.v (.bool false))), (some 8), none, [], none⟩]
def d66r1 : List RO := [
  ⟨.mov (.tmp 1), (some 13), none, [], none⟩,
  ⟨.bin .add (.tmp 13) (.con (.v (.int .i64 1))), (some 14), none, [0], none⟩,
  ⟨.mov (.tmp 14), (some 9), none, [1, 0, 1], none⟩]
def d66r2 : List RO := [
  ⟨.mov (.con (.v (.int .i64 0))), (some 10), none, [], none⟩]
def d66r3 : List RO := [
  ⟨.mov (.tmp 10), (some 15), none, [], none⟩,
  ⟨.bin .lss (.tmp 15) (.con (.v (.int .i64 5))), (some 16), none, [0], none⟩]
def d66r4 : List RO := [
  ⟨.mov (.tmp 9), (some 19), none, [], none⟩,
  ⟨.mov (.tmp 2), (some 20), none, [], none⟩,
  ⟨.bin .lss (.tmp 19) (.tmp 20), (some 21), none, [0, 1], none⟩,
  ⟨.mov (.tmp 21), (some 22), none, [2], none⟩,
  ⟨.mov (.tmp 3), (some 23), (some (22, true)), [3], none⟩,
  ⟨.mov (.tmp 0), (some 24), (some (22, true)), [3], none⟩,
  ⟨.mov (.tmp 9), (some 25), (some (22, true)), [3], none⟩,
  ⟨.idxAddr 3 (.tmp 24) (.tmp 25), (some 26), (some (22, true)), [5, 6, 3], none⟩,
  ⟨.load 3 true (.tmp 26), (some 27), (some (22, true)), [7, 3], none⟩,
  ⟨.mov (.tmp 0), (some 28), (some (22, true)), [3], none⟩,
  ⟨.mov (.tmp 9), (some 29), (some (22, true)), [3], none⟩,
  ⟨.bin .sub (.tmp 29) (.con (.v (.int .i64 1))), (some 30), (some (22, true)), [10, 3], none⟩,
  ⟨.idxAddr 3 (.tmp 28) (.tmp 30), (some 31), (some (22, true)), [9, 11, 3], none⟩,
  ⟨.load 3 true (.tmp 31), (some 32), (some (22, true)), [12, 3], none⟩,
  ⟨.callv (.tmp 23) [(.tmp 27), (.tmp 32)], (some 33), (some (22, true)), [4, 8, 13, 3, 3], none⟩,
  ⟨.bin .lss (.tmp 33) (.con (.v (.int .i64 0))), (some 34), (some (22, true)), [14, 3], none⟩,
  ⟨.un .not (.tmp 34), (some 35), (some (22, true)), [15, 3], none⟩,
  ⟨.pick (.tmp 22) (.tmp 35) (.con (.v (.bool false))), (some 36), none, [3, 16], none⟩]
def d66r5 : List RO := [
  ⟨.mov (.tmp 9), (some 37), none, [], none⟩,
  ⟨.bin .add (.tmp 37) (.con (.v (.int .i64 1))), (some 38), none, [0], none⟩,
  ⟨.mov (.tmp 38), (some 9), none, [1, 0, 1], none⟩]
def d66r6 : List RO := [
  ⟨.mov (.tmp 9), (some 39), none, [], none⟩,
  ⟨.mov (.tmp 2), (some 40), none, [], none⟩,
  ⟨.bin .eql (.tmp 39) (.tmp 40), (some 41), none, [0, 1], none⟩]
def d66r7 : List RO := [
  ⟨.mov (.con (.v (.bool true))), (some 8), none, [], none⟩]
def d66r8 : List RO := [
  ⟨.mov (.tmp 2), (some 42), none, [], none⟩,
  ⟨.mov (.tmp 1), (some 43), none, [], none⟩,
  ⟨.bin .sub (.tmp 42) (.tmp 43), (some 44), none, [0, 1], none⟩,
  ⟨.bin .lss (.tmp 44) (.con (.v (.int .i64 50))), (some 45), none, [2], none⟩]
def d66r9 : List RO := [
  ⟨.mov (.con (.v (.bool false))), (some 8), none, [], none⟩]
def d66r10 : List RO := [
  ⟨.mov (.tmp 0), (some 46), none, [], none⟩,
  ⟨.mov (.tmp 9), (some 47), none, [], none⟩,
  ⟨.mov (.tmp 0), (some 48), none, [], none⟩,
  ⟨.mov (.tmp 9), (some 49), none, [], none⟩,
  ⟨.bin .sub (.tmp 49) (.con (.v (.int .i64 1))), (some 50), none, [3], none⟩,
  ⟨.mov (.tmp 0), (some 51), none, [], none⟩,
  ⟨.mov (.tmp 9), (some 52), none, [], none⟩,
  ⟨.bin .sub (.tmp 52) (.con (.v (.int .i64 1))), (some 53), none, [6], none⟩,
  ⟨.idxAddr 3 (.tmp 51) (.tmp 53), (some 54), none, [5, 7], none⟩,
  ⟨.load 3 true (.tmp 54), (some 55), none, [8], none⟩,
  ⟨.mov (.tmp 0), (some 56), none, [], none⟩,
  ⟨.mov (.tmp 9), (some 57), none, [], none⟩,
  ⟨.idxAddr 3 (.tmp 56) (.tmp 57), (some 58), none, [10, 11], none⟩,
  ⟨.load 3 true (.tmp 58), (some 59), none, [12], none⟩,
  ⟨.idxAddr 3 (.tmp 46) (.tmp 47), (some 60), none, [0, 1, 0, 1, 5, 6, 7, 8, 9, 13], none⟩,
  ⟨.store 3 (.tmp 60) (.tmp 55), none, none, [14, 9, 0, 1, 5, 6, 7, 8, 9, 13], none⟩,
  ⟨.idxAddr 3 (.tmp 48) (.tmp 50), (some 61), none, [2, 4, 0, 1, 2, 3, 4, 5, 6, 7, 8, 9, 10, 11, 12, 13, 14, 15], none⟩,
  ⟨.store 3 (.tmp 61) (.tmp 59), none, none, [16, 13, 15, 0, 1, 2, 3, 4, 5, 6, 7, 8, 9, 10, 11, 12, 13, 14, 15], none⟩]
def d66r11 : List RO := [
  ⟨.mov (.tmp 9), (some 62), none, [], none⟩,
  ⟨.mov (.tmp 1), (some 63), none, [], none⟩,
  ⟨.bin .sub (.tmp 62) (.tmp 63), (some 64), none, [0, 1], none⟩,
  ⟨.bin .geq (.tmp 64) (.con (.v (.int .i64 2))), (some 65), none, [2], none⟩]
def d66r12 : List RO := [
  ⟨.mov (.tmp 9), (some 66), none, [], none⟩,
  ⟨.bin .sub (.tmp 66) (.con (.v (.int .i64 1))), (some 67), none, [0], none⟩,
  ⟨.mov (.tmp 67), (some 11), none, [1, 0, 1], none⟩]
def d66r13 : List RO := [
  ⟨.mov (.tmp 11), (some 68), none, [], none⟩,
  ⟨.bin .geq (.tmp 68) (.con (.v (.int .i64 1))), (some 69), none, [0], none⟩]
def d66r14 : List RO := [
  ⟨.mov (.tmp 3), (some 72), none, [], none⟩,
  ⟨.mov (.tmp 0), (some 73), none, [], none⟩,
  ⟨.mov (.tmp 11), (some 74), none, [], none⟩,
  ⟨.idxAddr 3 (.tmp 73) (.tmp 74), (some 75), none, [1, 2], none⟩,
  ⟨.load 3 true (.tmp 75), (some 76), none, [3], none⟩,
  ⟨.mov (.tmp 0), (some 77), none, [], none⟩,
  ⟨.mov (.tmp 11), (some 78), none, [], none⟩,
  ⟨.bin .sub (.tmp 78) (.con (.v (.int .i64 1))), (some 79), none, [6], none⟩,
  ⟨.idxAddr 3 (.tmp 77) (.tmp 79), (some 80), none, [5, 7], none⟩,
  ⟨.load 3 true (.tmp 80), (some 81), none, [8], none⟩,
  ⟨.callv (.tmp 72) [(.tmp 76), (.tmp 81)], (some 82), none, [0, 4, 9], none⟩,
  ⟨.bin .lss (.tmp 82) (.con (.v (.int .i64 0))), (some 83), none, [10], none⟩,
  ⟨.un .not (.tmp 83), (some 84), none, [11], none⟩]
def d66r15 : List RO := [
  ⟨.mov (.tmp 0), (some 85), none, [], none⟩,
  ⟨.mov (.tmp 11), (some 86), none, [], none⟩,
  ⟨.mov (.tmp 0), (some 87), none, [], none⟩,
  ⟨.mov (.tmp 11), (some 88), none, [], none⟩,
  ⟨.bin .sub (.tmp 88) (.con (.v (.int .i64 1))), (some 89), none, [3], none⟩,
  ⟨.mov (.tmp 0), (some 90), none, [], none⟩,
  ⟨.mov (.tmp 11), (some 91), none, [], none⟩,
  ⟨.bin .sub (.tmp 91) (.con (.v (.int .i64 1))), (some 92), none, [6], none⟩,
  ⟨.idxAddr 3 (.tmp 90) (.tmp 92), (some 93), none, [5, 7], none⟩,
  ⟨.load 3 true (.tmp 93), (some 94), none, [8], none⟩,
  ⟨.mov (.tmp 0), (some 95), none, [], none⟩,
  ⟨.mov (.tmp 11), (some 96), none, [], none⟩,
  ⟨.idxAddr 3 (.tmp 95) (.tmp 96), (some 97), none, [10, 11], none⟩,
  ⟨.load 3 true (.tmp 97), (some 98), none, [12], none⟩,
  ⟨.idxAddr 3 (.tmp 85) (.tmp 86), (some 99), none, [0, 1, 0, 1, 5, 6, 7, 8, 9, 13], none⟩,
  ⟨.store 3 (.tmp 99) (.tmp 94), none, none, [14, 9, 0, 1, 5, 6, 7, 8, 9, 13], none⟩,
  ⟨.idxAddr 3 (.tmp 87) (.tmp 89), (some 100), none, [2, 4, 0, 1, 2, 3, 4, 5, 6, 7, 8, 9, 10, 11, 12, 13, 14, 15], none⟩,
  ⟨.store 3 (.tmp 100) (.tmp 98), none, none, [16, 13, 15, 0, 1, 2, 3, 4, 5, 6, 7, 8, 9, 10, 11, 12, 13, 14, 15], none⟩]
def d66r16 : List RO := [
  ⟨.mov (.tmp 11), (some 70), none, [], none⟩,
  ⟨.bin .sub (.tmp 70) (.con (.v (.int .i64 1))), (some 71), none, [0], none⟩,
  ⟨.mov (.tmp 71), (some 11), none, [1, 0, 1], none⟩]
def d66r17 : List RO := [
  ⟨.mov (.tmp 2), (some 101), none, [], none⟩,
  ⟨.mov (.tmp 9), (some 102), none, [], none⟩,
  ⟨.bin .sub (.tmp 101) (.tmp 102), (some 103), none, [0, 1], none⟩,
  ⟨.bin .geq (.tmp 103) (.con (.v (.int .i64 2))), (some 104), none, [2], none⟩]
def d66r18 : List RO := [
  ⟨.mov (.tmp 9), (some 105), none, [], none⟩,
  ⟨.bin .add (.tmp 105) (.con (.v (.int .i64 1))), (some 106), none, [0], none⟩,
  ⟨.mov (.tmp 106), (some 12), none, [1, 0, 1], none⟩]
def d66r19 : List RO := [
  ⟨.mov (.tmp 12), (some 107), none, [], none⟩,
  ⟨.mov (.tmp 2), (some 108), none, [], none⟩,
  ⟨.bin .lss (.tmp 107) (.tmp 108), (some 109), none, [0, 1], none⟩]
def d66r20 : List RO := [
  ⟨.mov (.tmp 3), (some 112), none, [], none⟩,
  ⟨.mov (.tmp 0), (some 113), none, [], none⟩,
  ⟨.mov (.tmp 12), (some 114), none, [], none⟩,
  ⟨.idxAddr 3 (.tmp 113) (.tmp 114), (some 115), none, [1, 2], none⟩,
  ⟨.load 3 true (.tmp 115), (some 116), none, [3], none⟩,
  ⟨.mov (.tmp 0), (some 117), none, [], none⟩,
  ⟨.mov (.tmp 12), (some 118), none, [], none⟩,
  ⟨.bin .sub (.tmp 118) (.con (.v (.int .i64 1))), (some 119), none, [6], none⟩,
  ⟨.idxAddr 3 (.tmp 117) (.tmp 119), (some 120), none, [5, 7], none⟩,
  ⟨.load 3 true (.tmp 120), (some 121), none, [8], none⟩,
  ⟨.callv (.tmp 112) [(.tmp 116), (.tmp 121)], (some 122), none, [0, 4, 9], none⟩,
  ⟨.bin .lss (.tmp 122) (.con (.v (.int .i64 0))), (some 123), none, [10], none⟩,
  ⟨.un .not (.tmp 123), (some 124), none, [11], none⟩]
def d66r21 : List RO := [
  ⟨.mov (.tmp 0), (some 125), none, [], none⟩,
  ⟨.mov (.tmp 12), (some 126), none, [], none⟩,
  ⟨.mov (.tmp 0), (some 127), none, [], none⟩,
  ⟨.mov (.tmp 12), (some 128), none, [], none⟩,
  ⟨.bin .sub (.tmp 128) (.con (.v (.int .i64 1))), (some 129), none, [3], none⟩,
  ⟨.mov (.tmp 0), (some 130), none, [], none⟩,
  ⟨.mov (.tmp 12), (some 131), none, [], none⟩,
  ⟨.bin .sub (.tmp 131) (.con (.v (.int .i64 1))), (some 132), none, [6], none⟩,
  ⟨.idxAddr 3 (.tmp 130) (.tmp 132), (some 133), none, [5, 7], none⟩,
  ⟨.load 3 true (.tmp 133), (some 134), none, [8], none⟩,
  ⟨.mov (.tmp 0), (some 135), none, [], none⟩,
  ⟨.mov (.tmp 12), (some 136), none, [], none⟩,
  ⟨.idxAddr 3 (.tmp 135) (.tmp 136), (some 137), none, [10, 11], none⟩,
  ⟨.load 3 true (.tmp 137), (some 138), none, [12], none⟩,
  ⟨.idxAddr 3 (.tmp 125) (.tmp 126), (some 139), none, [0, 1, 0, 1, 5, 6, 7, 8, 9, 13], none⟩,
  ⟨.store 3 (.tmp 139) (.tmp 134), none, none, [14, 9, 0, 1, 5, 6, 7, 8, 9, 13], none⟩,
  ⟨.idxAddr 3 (.tmp 127) (.tmp 129), (some 140), none, [2, 4, 0, 1, 2, 3, 4, 5, 6, 7, 8, 9, 10, 11, 12, 13, 14, 15], none⟩,
  ⟨.store 3 (.tmp 140) (.tmp 138), none, none, [16, 13, 15, 0, 1, 2, 3, 4, 5, 6, 7, 8, 9, 10, 11, 12, 13, 14, 15], none⟩]
def d66r22 : List RO := [
  ⟨.mov (.tmp 12), (some 110), none, [], none⟩,
  ⟨.bin .add (.tmp 110) (.con (.v (.int .i64 1))), (some 111), none, [0], none⟩,
  ⟨.mov (.tmp 111), (some 12), none, [1, 0, 1], none⟩]
def d66r23 : List RO := [
  ⟨.mov (.tmp 10), (some 17), none, [], none⟩,
  ⟨.bin .add (.tmp 17) (.con (.v (.int .i64 1))), (some 18), none, [0], none⟩,
  ⟨.mov (.tmp 18), (some 10), none, [1, 0, 1], none⟩]
def d66r24 : List RO := [
  ⟨.mov (.con (.v (.bool false))), (some 8), none, [], none⟩]
def d66 : DC := (.seq (.region false d66r0)
  (.seq (.region false d66r1)
  (.seq (.seq (.region false d66r2)
  (.block 0 (.loop (.seq (.seq (.region false d66r3)
  (.cond (.tmp 16) .skip
  (.exit 0)))
  (.seq (.block 1 (.seq (.block 2 (.loop (.seq (.seq (.region true d66r4)
  (.cond (.tmp 36) .skip
  (.exit 2)))
  (.block 3 (.region false d66r5)))))
  (.seq (.seq (.region false d66r6)
  (.cond (.tmp 41) (.seq (.region false d66r7)
  .ret)
  .skip))
  (.seq (.seq (.region false d66r8)
  (.cond (.tmp 45) (.seq (.region false d66r9)
  .ret)
  .skip))
  (.seq (.region true d66r10)
  (.seq (.seq (.region false d66r11)
  (.cond (.tmp 65) (.seq (.region false d66r12)
  (.block 4 (.loop (.seq (.seq (.region false d66r13)
  (.cond (.tmp 69) .skip
  (.exit 4)))
  (.seq (.block 5 (.seq (.seq (.region true d66r14)
  (.cond (.tmp 84) (.exit 4)
  .skip))
  (.region true d66r15)))
  (.region false d66r16))))))
  .skip))
  (.seq (.region false d66r17)
  (.cond (.tmp 104) (.seq (.region false d66r18)
  (.block 6 (.loop (.seq (.seq (.region false d66r19)
  (.cond (.tmp 109) .skip
  (.exit 6)))
  (.seq (.block 7 (.seq (.seq (.region true d66r20)
  (.cond (.tmp 124) (.exit 6)
  .skip))
  (.region true d66r21)))
  (.region false d66r22))))))
  .skip))))))))
  (.region false d66r23))))))
  (.seq (.region false d66r24)
  .ret))))
def d66res : List DRes := [.slot 8]
theorem c66 : CodeOf Try.prog 66 141 d66 d66res := ⟨Try.f66, by kernel_rfl, by kernel_rfl, by kernel_rfl, by kernel_rfl, by kernel_rfl⟩
-- slices.partitionEqualCmpFunc[emendate/lattice.key]
def d67r0 : List RO := [
  ⟨.mov (.con (.v (.int .i64 0))), (some 10), none, [], none⟩]
def d67r1 : List RO := [
  ⟨.mov (.tmp 0), (some 13), none, [], none⟩,
  ⟨.mov (.tmp 1), (some 14), none, [], none⟩,
  ⟨.mov (.tmp 0), (some 15), none, [], none⟩,
  ⟨.mov (.tmp 3), (some 16), none, [], none⟩,
  ⟨.mov (.tmp 0), (some 17), none, [], none⟩,
  ⟨.mov (.tmp 3), (some 18), none, [], none⟩,
  ⟨.idxAddr 3 (.tmp 17) (.tmp 18), (some 19), none, [4, 5], none⟩,
  ⟨.load 3 true (.tmp 19), (some 20), none, [6], none⟩,
  ⟨.mov (.tmp 0), (some 21), none, [], none⟩,
  ⟨.mov (.tmp 1), (some 22), none, [], none⟩,
  ⟨.idxAddr 3 (.tmp 21) (.tmp 22), (some 23), none, [8, 9], none⟩,
  ⟨.load 3 true (.tmp 23), (some 24), none, [10], none⟩,
  ⟨.idxAddr 3 (.tmp 13) (.tmp 14), (some 25), none, [0, 1, 0, 1, 4, 5, 6, 7, 11], none⟩,
  ⟨.store 3 (.tmp 25) (.tmp 20), none, none, [12, 7, 0, 1, 4, 5, 6, 7, 11], none⟩,
  ⟨.idxAddr 3 (.tmp 15) (.tmp 16), (some 26), none, [2, 3, 0, 1, 2, 3, 4, 5, 6, 7, 8, 9, 10, 11, 12, 13], none⟩,
  ⟨.store 3 (.tmp 26) (.tmp 24), none, none, [14, 11, 13, 0, 1, 2, 3, 4, 5, 6, 7, 8, 9, 10, 11, 12, 13], none⟩]
def d67r2 : List RO := [
  ⟨.mov (.tmp 1), (some 27), none, [], none⟩,
  ⟨.bin .add (.tmp 27) (.con (.v (.int .i64 1))), (some 28), none, [0], none⟩,
  ⟨.mov (.tmp 2), (some 29), none, [], none⟩,
  ⟨.bin .sub (.tmp 29) (.con (.v (.int .i64 1))), (some 30), none, [2], none⟩,
  ⟨.mov (.tmp 28), (some 11), none, [1, 0, 1], none⟩,
  ⟨.mov (.tmp 30), (some 12), none, [3, 4, 0, 1, 2, 3, 4], none⟩]
def d67r3 : List RO := [
  ⟨.mov (.tmp 11), (some 31), none, [], none⟩,
  ⟨.mov (.tmp 12), (some 32), none, [], none⟩,
  ⟨.bin .leq (.tmp 31) (.tmp 32), (some 33), none, [0, 1], none⟩,
  ⟨.mov (.tmp 33), (some 34), none, [2], none⟩,
  ⟨.mov (.tmp 4), (some 35), (some (34, true)), [3], none⟩,
  ⟨.mov (.tmp 0), (some 36), (some (34, true)), [3], none⟩,
  ⟨.mov (.tmp 1), (some 37), (some (34, true)), [3], none⟩,
  ⟨.idxAddr 3 (.tmp 36) (.tmp 37), (some 38), (some (34, true)), [5, 6, 3], none⟩,
  ⟨.load 3 true (.tmp 38), (some 39), (some (34, true)), [7, 3], none⟩,
  ⟨.mov (.tmp 0), (some 40), (some (34, true)), [3], none⟩,
  ⟨.mov (.tmp 11), (some 41), (some (34, true)), [3], none⟩,
  ⟨.idxAddr 3 (.tmp 40) (.tmp 41), (some 42), (some (34, true)), [9, 10, 3], none⟩,
  ⟨.load 3 true (.tmp 42), (some 43), (some (34, true)), [11, 3], none⟩,
  ⟨.callv (.tmp 35) [(.tmp 39), (.tmp 43)], (some 44), (some (34, true)), [4, 8, 12, 3, 3], none⟩,
  ⟨.bin .lss (.tmp 44) (.con (.v (.int .i64 0))), (some 45), (some (34, true)), [13, 3], none⟩,
  ⟨.un .not (.tmp 45), (some 46), (some (34, true)), [14, 3], none⟩,
  ⟨.pick (.tmp 34) (.tmp 46) (.con (.v (.bool false))), (some 47), none, [3, 15], none⟩]
def d67r4 : List RO := [
  ⟨.mov (.tmp 11), (some 48), none, [], none⟩,
  ⟨.bin .add (.tmp 48) (.con (.v (.int .i64 1))), (some 49), none, [0], none⟩,
  ⟨.mov (.tmp 49), (some 11), none, [1, 0, 1], none⟩]
def d67r5 : List RO := [
  ⟨.mov (.tmp 11), (some 50), none, [], none⟩,
  ⟨.mov (.tmp 12), (some 51), none, [], none⟩,
  ⟨.bin .leq (.tmp 50) (.tmp 51), (some 52), none, [0, 1], none⟩,
  ⟨.mov (.tmp 52), (some 53), none, [2], none⟩,
  ⟨.mov (.tmp 4), (some 54), (some (53, true)), [3], none⟩,
  ⟨.mov (.tmp 0), (some 55), (some (53, true)), [3], none⟩,
  ⟨.mov (.tmp 1), (some 56), (some (53, true)), [3], none⟩,
  ⟨.idxAddr 3 (.tmp 55) (.tmp 56), (some 57), (some (53, true)), [5, 6, 3], none⟩,
  ⟨.load 3 true (.tmp 57), (some 58), (some (53, true)), [7, 3], none⟩,
  ⟨.mov (.tmp 0), (some 59), (some (53, true)), [3], none⟩,
  ⟨.mov (.tmp 12), (some 60), (some (53, true)), [3], none⟩,
  ⟨.idxAddr 3 (.tmp 59) (.tmp 60), (some 61), (some (53, true)), [9, 10, 3], none⟩,
  ⟨.load 3 true (.tmp 61), (some 62), (some (53, true)), [11, 3], none⟩,
  ⟨.callv (.tmp 54) [(.tmp 58), (.tmp 62)], (some 63), (some (53, true)), [4, 8, 12, 3, 3], none⟩,
  ⟨.bin .lss (.tmp 63) (.con (.v (.int .i64 0))), (some 64), (some (53, true)), [13, 3], none⟩,
  ⟨.pick (.tmp 53) (.tmp 64) (.con (.v (.bool false))), (some 65), none, [3, 14], none⟩]
def d67r6 : List RO := [
  ⟨.mov (.tmp 12), (some 66), none, [], none⟩,
  ⟨.bin .sub (.tmp 66) (.con (.v (.int .i64 1))), (some 67), none, [0], none⟩,
  ⟨.mov (.tmp 67), (some 12), none, [1, 0, 1], none⟩]
def d67r7 : List RO := [
  ⟨.mov (.tmp 11), (some 68), none, [], none⟩,
  ⟨.mov (.tmp 12), (some 69), none, [], none⟩,
  ⟨.bin .gtr (.tmp 68) (.tmp 69), (some 70), none, [0, 1], none⟩]
def d67r8 : List RO := [
  ⟨.mov (.tmp 0), (some 71), none, [], none⟩,
  ⟨.mov (.tmp 11), (some 72), none, [], none⟩,
  ⟨.mov (.tmp 0), (some 73), none, [], none⟩,
  ⟨.mov (.tmp 12), (some 74), none, [], none⟩,
  ⟨.mov (.tmp 0), (some 75), none, [], none⟩,
  ⟨.mov (.tmp 12), (some 76), none, [], none⟩,
  ⟨.idxAddr 3 (.tmp 75) (.tmp 76), (some 77), none, [4, 5], none⟩,
  ⟨.load 3 true (.tmp 77), (some 78), none, [6], none⟩,
  ⟨.mov (.tmp 0), (some 79), none, [], none⟩,
  ⟨.mov (.tmp 11), (some 80), none, [], none⟩,
  ⟨.idxAddr 3 (.tmp 79) (.tmp 80), (some 81), none, [8, 9], none⟩,
  ⟨.load 3 true (.tmp 81), (some 82), none, [10], none⟩,
  ⟨.idxAddr 3 (.tmp 71) (.tmp 72), (some 83), none, [0, 1, 0, 1, 4, 5, 6, 7, 11], none⟩,
  ⟨.store 3 (.tmp 83) (.tmp 78), none, none, [12, 7, 0, 1, 4, 5, 6, 7, 11], none⟩,
  ⟨.idxAddr 3 (.tmp 73) (.tmp 74), (some 84), none, [2, 3, 0, 1, 2, 3, 4, 5, 6, 7, 8, 9, 10, 11, 12, 13], none⟩,
  ⟨.store 3 (.tmp 84) (.tmp 82), none, none, [14, 11, 13, 0, 1, 2, 3, 4, 5, 6, 7, 8, 9, 10, 11, 12, 13], none⟩]
def d67r9 : List RO := [
  ⟨.mov (.tmp 11), (some 85), none, [], none⟩,
  ⟨.bin .add (.tmp 85) (.con (.v (.int .i64 1))), (some 86), none, [0], none⟩,
  ⟨.mov (.tmp 86), (some 11), none, [1, 0, 1], none⟩]
def d67r10 : List RO := [
  ⟨.mov (.tmp 12), (some 87), none, [], none⟩,
  ⟨.bin .sub (.tmp 87) (.con (.v (.int .i64 1))), (some 88), none, [0], none⟩,
  ⟨.mov (.tmp 88), (some 12), none, [1, 0, 1], none⟩]
def d67r11 : List RO := [
  ⟨.mov (.tmp 11), (some 89), none, [], none⟩,
  ⟨.mov (.tmp 89), (some 10), none, [0, 0], none⟩]
def d67 : DC := (.seq (.region false d67r0)
  (.seq (.region true d67r1)
  (.seq (.region false d67r2)
  (.seq (.block 0 (.loop (.block 1 (.seq (.block 2 (.loop (.seq (.seq (.region true d67r3)
  (.cond (.tmp 47) .skip
  (.exit 2)))
  (.block 3 (.region false d67r4)))))
  (.seq (.block 4 (.loop (.seq (.seq (.region true d67r5)
  (.cond (.tmp 65) .skip
  (.exit 4)))
  (.block 5 (.region false d67r6)))))
  (.seq (.seq (.region false d67r7)
  (.cond (.tmp 70) (.exit 0)
  .skip))
  (.seq (.region true d67r8)
  (.seq (.region false d67r9)
  (.region false d67r10)))))))))
  (.seq (.region false d67r11)
  .ret)))))
def d67res : List DRes := [.slot 10]
theorem c67 : CodeOf Try.prog 67 90 d67 d67res := ⟨Try.f67, by kernel_rfl, by kernel_rfl, by kernel_rfl, by kernel_rfl, by kernel_rfl⟩
-- slices.partitionCmpFunc[emendate/lattice.key]
def d68r0 : List RO := [
  ⟨.mov (.con (.v (.int .i64 0))), (some 10), none, [], none⟩,
  ⟨.mov (.con (.v (.bool false))), (some 11), none, [0], none⟩]
def d68r1 : List RO := [
  ⟨.mov (.tmp 0), (some 14), none, [], none⟩,
  ⟨.mov (.tmp 1), (some 15), none, [], none⟩,
  ⟨.mov (.tmp 0), (some 16), none, [], none⟩,
  ⟨.mov (.tmp 3), (some 17), none, [], none⟩,
  ⟨.mov (.tmp 0), (some 18), none, [], none⟩,
  ⟨.mov (.tmp 3), (some 19), none, [], none⟩,
  ⟨.idxAddr 3 (.tmp 18) (.tmp 19), (some 20), none, [4, 5], none⟩,
  ⟨.load 3 true (.tmp 20), (some 21), none, [6], none⟩,
  ⟨.mov (.tmp 0), (some 22), none, [], none⟩,
  ⟨.mov (.tmp 1), (some 23), none, [], none⟩,
  ⟨.idxAddr 3 (.tmp 22) (.tmp 23), (some 24), none, [8, 9], none⟩,
  ⟨.load 3 true (.tmp 24), (some 25), none, [10], none⟩,
  ⟨.idxAddr 3 (.tmp 14) (.tmp 15), (some 26), none, [0, 1, 0, 1, 4, 5, 6, 7, 11], none⟩,
  ⟨.store 3 (.tmp 26) (.tmp 21), none, none, [12, 7, 0, 1, 4, 5, 6, 7, 11], none⟩,
  ⟨.idxAddr 3 (.tmp 16) (.tmp 17), (some 27), none, [2, 3, 0, 1, 2, 3, 4, 5, 6, 7, 8, 9, 10, 11, 12, 13], none⟩,
  ⟨.store 3 (.tmp 27) (.tmp 25), none, none, [14, 11, 13, 0, 1, 2, 3, 4, 5, 6, 7, 8, 9, 10, 11, 12, 13], none⟩]
def d68r2 : List RO := [
  ⟨.mov (.tmp 1), (some 28), none, [], none⟩,
  ⟨.bin .add (.tmp 28) (.con (.v (.int .i64 1))), (some 29), none, [0], none⟩,
  ⟨.mov (.tmp 2), (some 30), none, [], none⟩,
  ⟨.bin .sub (.tmp 30) (.con (.v (.int .i64 1))), (some 31), none, [2], none⟩,
  ⟨.mov (.tmp 29), (some 12), none, [1, 0, 1], none⟩,
  ⟨.mov (.tmp 31), (some 13), none, [3, 4, 0, 1, 2, 3, 4], none⟩]
def d68r3 : List RO := [
  ⟨.mov (.tmp 12), (some 32), none, [], none⟩,
  ⟨.mov (.tmp 13), (some 33), none, [], none⟩,
  ⟨.bin .leq (.tmp 32) (.tmp 33), (some 34), none, [0, 1], none⟩,
  ⟨.mov (.tmp 34), (some 35), none, [2], none⟩,
  ⟨.mov (.tmp 4), (some 36), (some (35, true)), [3], none⟩,
  ⟨.mov (.tmp 0), (some 37), (some (35, true)), [3], none⟩,
  ⟨.mov (.tmp 12), (some 38), (some (35, true)), [3], none⟩,
  ⟨.idxAddr 3 (.tmp 37) (.tmp 38), (some 39), (some (35, true)), [5, 6, 3], none⟩,
  ⟨.load 3 true (.tmp 39), (some 40), (some (35, true)), [7, 3], none⟩,
  ⟨.mov (.tmp 0), (some 41), (some (35, true)), [3], none⟩,
  ⟨.mov (.tmp 1), (some 42), (some (35, true)), [3], none⟩,
  ⟨.idxAddr 3 (.tmp 41) (.tmp 42), (some 43), (some (35, true)), [9, 10, 3], none⟩,
  ⟨.load 3 true (.tmp 43), (some 44), (some (35, true)), [11, 3], none⟩,
  ⟨.callv (.tmp 36) [(.tmp 40), (.tmp 44)], (some 45), (some (35, true)), [4, 8, 12, 3, 3], none⟩,
  ⟨.bin .lss (.tmp 45) (.con (.v (.int .i64 0))), (some 46), (some (35, true)), [13, 3], none⟩,
  ⟨.pick (.tmp 35) (.tmp 46) (.con (.v (.bool false))), (some 47), none, [3, 14], none⟩]
def d68r4 : List RO := [
  ⟨.mov (.tmp 12), (some 48), none, [], none⟩,
  ⟨.bin .add (.tmp 48) (.con (.v (.int .i64 1))), (some 49), none, [0], none⟩,
  ⟨.mov (.tmp 49), (some 12), none, [1, 0, 1], none⟩]
def d68r5 : List RO := [
  ⟨.mov (.tmp 12), (some 50), none, [], none⟩,
  ⟨.mov (.tmp 13), (some 51), none, [], none⟩,
  ⟨.bin .leq (.tmp 50) (.tmp 51), (some 52), none, [0, 1], none⟩,
  ⟨.mov (.tmp 52), (some 53), none, [2], none⟩,
  ⟨.mov (.tmp 4), (some 54), (some (53, true)), [3], none⟩,
  ⟨.mov (.tmp 0), (some 55), (some (53, true)), [3], none⟩,
  ⟨.mov (.tmp 13), (some 56), (some (53, true)), [3], none⟩,
  ⟨.idxAddr 3 (.tmp 55) (.tmp 56), (some 57), (some (53, true)), [5, 6, 3], none⟩,
  ⟨.load 3 true (.tmp 57), (some 58), (some (53, true)), [7, 3], none⟩,
  ⟨.mov (.tmp 0), (some 59), (some (53, true)), [3], none⟩,
  ⟨.mov (.tmp 1), (some 60), (some (53, true)), [3], none⟩,
  ⟨.idxAddr 3 (.tmp 59) (.tmp 60), (some 61), (some (53, true)), [9, 10, 3], none⟩,
  ⟨.load 3 true (.tmp 61), (some 62), (some (53, true)), [11, 3], none⟩,
  ⟨.callv (.tmp 54) [(.tmp 58), (.tmp 62)], (some 63), (some (53, true)), [4, 8, 12, 3, 3], none⟩,
  ⟨.bin .lss (.tmp 63) (.con (.v (.int .i64 0))), (some 64), (some (53, true)), [13, 3], none⟩,
  ⟨.un .not (.tmp 64), (some 65), (some (53, true)), [14, 3], none⟩,
  ⟨.pick (.tmp 53) (.tmp 65) (.con (.v (.bool false))), (some 66), none, [3, 15], none⟩]
def d68r6 : List RO := [
  ⟨.mov (.tmp 13), (some 67), none, [], none⟩,
  ⟨.bin .sub (.tmp 67) (.con (.v (.int .i64 1))), (some 68), none, [0], none⟩,
  ⟨.mov (.tmp 68), (some 13), none, [1, 0, 1], none⟩]
def d68r7 : List RO := [
  ⟨.mov (.tmp 12), (some 69), none, [], none⟩,
  ⟨.mov (.tmp 13), (some 70), none, [], none⟩,
  ⟨.bin .gtr (.tmp 69) (.tmp 70), (some 71), none, [0, 1], none⟩]
def d68r8 : List RO := [
  ⟨.mov (.tmp 0), (some 72), none, [], none⟩,
  ⟨.mov (.tmp 13), (some 73), none, [], none⟩,
  ⟨.mov (.tmp 0), (some 74), none, [], none⟩,
  ⟨.mov (.tmp 1), (some 75), none, [], none⟩,
  ⟨.mov (.tmp 0), (some 76), none, [], none⟩,
  ⟨.mov (.tmp 1), (some 77), none, [], none⟩,
  ⟨.idxAddr 3 (.tmp 76) (.tmp 77), (some 78), none, [4, 5], none⟩,
  ⟨.load 3 true (.tmp 78), (some 79), none, [6], none⟩,
  ⟨.mov (.tmp 0), (some 80), none, [], none⟩,
  ⟨.mov (.tmp 13), (some 81), none, [], none⟩,
  ⟨.idxAddr 3 (.tmp 80) (.tmp 81), (some 82), none, [8, 9], none⟩,
  ⟨.load 3 true (.tmp 82), (some 83), none, [10], none⟩,
  ⟨.idxAddr 3 (.tmp 72) (.tmp 73), (some 84), none, [0, 1, 0, 1, 4, 5, 6, 7, 11], none⟩,
  ⟨.store 3 (.tmp 84) (.tmp 79), none, none, [12, 7, 0, 1, 4, 5, 6, 7, 11], none⟩,
  ⟨.idxAddr 3 (.tmp 74) (.tmp 75), (some 85), none, [2, 3, 0, 1, 2, 3, 4, 5, 6, 7, 8, 9, 10, 11, 12, 13], none⟩,
  ⟨.store 3 (.tmp 85) (.tmp 83), none, none, [14, 11, 13, 0, 1, 2, 3, 4, 5, 6, 7, 8, 9, 10, 11, 12, 13], none⟩]
def d68r9 : List RO := [
  ⟨.mov (.tmp 13), (some 86), none, [], none⟩,
  ⟨.mov (.tmp 86), (some 10), none, [0, 0], none⟩,
  ⟨.mov (.con (.v (.bool true))), (some 11), none, [1, 0, 1], none⟩]
def d68r10 : List RO := [
  ⟨.mov (.tmp 0), (some 87), none, [], none⟩,
  ⟨.mov (.tmp 12), (some 88), none, [], none⟩,
  ⟨.mov (.tmp 0), (some 89), none, [], none⟩,
  ⟨.mov (.tmp 13), (some 90), none, [], none⟩,
  ⟨.mov (.tmp 0), (some 91), none, [], none⟩,
  ⟨.mov (.tmp 13), (some 92), none, [], none⟩,
  ⟨.idxAddr 3 (.tmp 91) (.tmp 92), (some 93), none, [4, 5], none⟩,
  ⟨.load 3 true (.tmp 93), (some 94), none, [6], none⟩,
  ⟨.mov (.tmp 0), (some 95), none, [], none⟩,
  ⟨.mov (.tmp 12), (some 96), none, [], none⟩,
  ⟨.idxAddr 3 (.tmp 95) (.tmp 96), (some 97), none, [8, 9], none⟩,
  ⟨.load 3 true (.tmp 97), (some 98), none, [10], none⟩,
  ⟨.idxAddr 3 (.tmp 87) (.tmp 88), (some 99), none, [0, 1, 0, 1, 4, 5, 6, 7, 11], none⟩,
  ⟨.store 3 (.tmp 99) (.tmp 94), none, none, [12, 7, 0, 1, 4, 5, 6, 7, 11], none⟩,
  ⟨.idxAddr 3 (.tmp 89) (.tmp 90), (some 100), none, [2, 3, 0, 1, 2, 3, 4, 5, 6, 7, 8, 9, 10, 11, 12, 13], none⟩,
  ⟨.store 3 (.tmp 100) (.tmp 98), none, none, [14, 11, 13, 0, 1, 2, 3, 4, 5, 6, 7, 8, 9, 10, 11, 12, 13], none⟩]
def d68r11 : List RO := [
  ⟨.mov (.tmp 12), (some 101), none, [], none⟩,
  ⟨.bin .add (.tmp 101) (.con (.v (.int .i64 1))), (some 102), none, [0], none⟩,
  ⟨.mov (.tmp 102), (some 12), none, [1, 0, 1], none⟩]
def d68r12 : List RO := [
  ⟨.mov (.tmp 13), (some 103), none, [], none⟩,
  ⟨.bin .sub (.tmp 103) (.con (.v (.int .i64 1))), (some 104), none, [0], none⟩,
  ⟨.mov (.tmp 104), (some 13), none, [1, 0, 1], none⟩]
def d68r13 : List RO := [
  ⟨.mov (.tmp 12), (some 105), none, [], none⟩,
  ⟨.mov (.tmp 13), (some 106), none, [], none⟩,
  ⟨.bin .leq (.tmp 105) (.tmp 106), (some 107), none, [0, 1], none⟩,
  ⟨.mov (.tmp 107), (some 108), none, [2], none⟩,
  ⟨.mov (.tmp 4), (some 109), (some (108, true)), [3], none⟩,
  ⟨.mov (.tmp 0), (some 110), (some (108, true)), [3], none⟩,
  ⟨.mov (.tmp 12), (some 111), (some (108, true)), [3], none⟩,
  ⟨.idxAddr 3 (.tmp 110) (.tmp 111), (some 112), (some (108, true)), [5, 6, 3], none⟩,
  ⟨.load 3 true (.tmp 112), (some 113), (some (108, true)), [7, 3], none⟩,
  ⟨.mov (.tmp 0), (some 114), (some (108, true)), [3], none⟩,
  ⟨.mov (.tmp 1), (some 115), (some (108, true)), [3], none⟩,
  ⟨.idxAddr 3 (.tmp 114) (.tmp 115), (some 116), (some (108, true)), [9, 10, 3], none⟩,
  ⟨.load 3 true (.tmp 116), (some 117), (some (108, true)), [11, 3], none⟩,
  ⟨.callv (.tmp 109) [(.tmp 113), (.tmp 117)], (some 118), (some (108, true)), [4, 8, 12, 3, 3], none⟩,
  ⟨.bin .lss (.tmp 118) (.con (.v (.int .i64 0))), (some 119), (some (108, true)), [13, 3], none⟩,
  ⟨.pick (.tmp 108) (.tmp 119) (.con (.v (.bool false))), (some 120), none, [3, 14], none⟩]
def d68r14 : List RO := [
  ⟨.mov (.tmp 12), (some 121), none, [], none⟩,
  ⟨.bin .add (.tmp 121) (.con (.v (.int .i64 1))), (some 122), none, [0], none⟩,
  ⟨.mov (.tmp 122), (some 12), none, [1, 0, 1], none⟩]
def d68r15 : List RO := [
  ⟨.mov (.tmp 12), (some 123), none, [], none⟩,
  ⟨.mov (.tmp 13), (some 124), none, [], none⟩,
  ⟨.bin .leq (.tmp 123) (.tmp 124), (some 125), none, [0, 1], none⟩,
  ⟨.mov (.tmp 125), (some 126), none, [2], none⟩,
  ⟨.mov (.tmp 4), (some 127), (some (126, true)), [3], none⟩,
  ⟨.mov (.tmp 0), (some 128), (some (126, true)), [3], none⟩,
  ⟨.mov (.tmp 13), (some 129), (some (126, true)), [3], none⟩,
  ⟨.idxAddr 3 (.tmp 128) (.tmp 129), (some 130), (some (126, true)), [5, 6, 3], none⟩,
  ⟨.load 3 true (.tmp 130), (some 131), (some (126, true)), [7, 3], none⟩,
  ⟨.mov (.tmp 0), (some 132), (some (126, true)), [3], none⟩,
  ⟨.mov (.tmp 1), (some 133), (some (126, true)), [3], none⟩,
  ⟨.idxAddr 3 (.tmp 132) (.tmp 133), (some 134), (some (126, true)), [9, 10, 3], none⟩,
  ⟨.load 3 true (.tmp 134), (some 135), (some (126, true)), [11, 3], none⟩,
  ⟨.callv (.tmp 127) [(.tmp 131), (.tmp 135)], (some 136), (some (126, true)), [4, 8, 12, 3, 3], none⟩,
  ⟨.bin .lss (.tmp 136) (.con (.v (.int .i64 0))), (some 137), (some (126, true)), [13, 3], none⟩,
  ⟨.un .not (.tmp 137), (some 138), (some (126, true)), [14, 3], none⟩,
  ⟨.pick (.tmp 126) (.tmp 138) (.con (.v (.bool false))), (some 139), none, [3, 15], none⟩]
def d68r16 : List RO := [
  ⟨.mov (.tmp 13), (some 140), none, [], none⟩,
  ⟨.bin .sub (.tmp 140) (.con (.v (.int .i64 1))), (some 141), none, [0], none⟩,
  ⟨.mov (.tmp 141), (some 13), none, [1, 0, 1], none⟩]
def d68r17 : List RO := [
  ⟨.mov (.tmp 12), (some 142), none, [], none⟩,
  ⟨.mov (.tmp 13), (some 143), none, [], none⟩,
  ⟨.bin .gtr (.tmp 142) (.tmp 143), (some 144), none, [0, 1], none⟩]
def d68r18 : List RO := [
  ⟨.mov (.tmp 0), (some 145), none, [], none⟩,
  ⟨.mov (.tmp 12), (some 146), none, [], none⟩,
  ⟨.mov (.tmp 0), (some 147), none, [], none⟩,
  ⟨.mov (.tmp 13), (some 148), none, [], none⟩,
  ⟨.mov (.tmp 0), (some 149), none, [], none⟩,
  ⟨.mov (.tmp 13), (some 150), none, [], none⟩,
  ⟨.idxAddr 3 (.tmp 149) (.tmp 150), (some 151), none, [4, 5], none⟩,
  ⟨.load 3 true (.tmp 151), (some 152), none, [6], none⟩,
  ⟨.mov (.tmp 0), (some 153), none, [], none⟩,
  ⟨.mov (.tmp 12), (some 154), none, [], none⟩,
  ⟨.idxAddr 3 (.tmp 153) (.tmp 154), (some 155), none, [8, 9], none⟩,
  ⟨.load 3 true (.tmp 155), (some 156), none, [10], none⟩,
  ⟨.idxAddr 3 (.tmp 145) (.tmp 146), (some 157), none, [0, 1, 0, 1, 4, 5, 6, 7, 11], none⟩,
  ⟨.store 3 (.tmp 157) (.tmp 152), none, none, [12, 7, 0, 1, 4, 5, 6, 7, 11], none⟩,
  ⟨.idxAddr 3 (.tmp 147) (.tmp 148), (some 158), none, [2, 3, 0, 1, 2, 3, 4, 5, 6, 7, 8, 9, 10, 11, 12, 13], none⟩,
  ⟨.store 3 (.tmp 158) (.tmp 156), none, none, [14, 11, 13, 0, 1, 2, 3, 4, 5, 6, 7, 8, 9, 10, 11, 12, 13], none⟩]
def d68r19 : List RO := [
  ⟨.mov (.tmp 12), (some 159), none, [], none⟩,
  ⟨.bin .add (.tmp 159) (.con (.v (.int .i64 1))), (some 160), none, [0], none⟩,
  ⟨.mov (.tmp 160), (some 12), none, [1, 0, 1], none⟩]
def d68r20 : List RO := [
  ⟨.mov (.tmp 13), (some 161), none, [], none⟩,
  ⟨.bin .sub (.tmp 161) (.con (.v (.int .i64 1))), (some 162), none, [0], none⟩,
  ⟨.mov (.tmp 162), (some 13), none, [1, 0, 1], none⟩]
def d68r21 : List RO := [
  ⟨.mov (.tmp 0), (some 163), none, [], none⟩,
  ⟨.mov (.tmp 13), (some 164), none, [], none⟩,
  ⟨.mov (.tmp 0), (some 165), none, [], none⟩,
  ⟨.mov (.tmp 1), (some 166), none, [], none⟩,
  ⟨.mov (.tmp 0), (some 167), none, [], none⟩,
  ⟨.mov (.tmp 1), (some 168), none, [], none⟩,
  ⟨.idxAddr 3 (.tmp 167) (.tmp 168), (some 169), none, [4, 5], none⟩,
  ⟨.load 3 true (.tmp 169), (some 170), none, [6], none⟩,
  ⟨.mov (.tmp 0), (some 171), none, [], none⟩,
  ⟨.mov (.tmp 13), (some 172), none, [], none⟩,
  ⟨.idxAddr 3 (.tmp 171) (.tmp 172), (some 173), none, [8, 9], none⟩,
  ⟨.load 3 true (.tmp 173), (some 174), none, [10], none⟩,
  ⟨.idxAddr 3 (.tmp 163) (.tmp 164), (some 175), none, [0, 1, 0, 1, 4, 5, 6, 7, 11], none⟩,
  ⟨.store 3 (.tmp 175) (.tmp 170), none, none, [12, 7, 0, 1, 4, 5, 6, 7, 11], none⟩,
  ⟨.idxAddr 3 (.tmp 165) (.tmp 166), (some 176), none, [2, 3, 0, 1, 2, 3, 4, 5, 6, 7, 8, 9, 10, 11, 12, 13], none⟩,
  ⟨.store 3 (.tmp 176) (.tmp 174), none, none, [14, 11, 13, 0, 1, 2, 3, 4, 5, 6, 7, 8, 9, 10, 11, 12, 13], none⟩]
def d68r22 : List RO := [
  ⟨.mov (.tmp 13), (some 177), none, [], none⟩,
  ⟨.mov (.tmp 177), (some 10), none, [0, 0], none⟩,
  ⟨.mov (.con (.v (.bool false))), (some 11), none, [1, 0, 1], none⟩]
def d68 : DC := (.seq (.region false d68r0)
  (.seq (.region true d68r1)
  (.seq (.region false d68r2)
  (.seq (.block 0 (.loop (.seq (.seq (.region true d68r3)
  (.cond (.tmp 47) .skip
  (.exit 0)))
  (.block 1 (.region false d68r4)))))
  (.seq (.block 2 (.loop (.seq (.seq (.region true d68r5)
  (.cond (.tmp 66) .skip
  (.exit 2)))
  (.block 3 (.region false d68r6)))))
  (.seq (.seq (.region false d68r7)
  (.cond (.tmp 71) (.seq (.region true d68r8)
  (.seq (.region false d68r9)
  .ret))
  .skip))
  (.seq (.region true d68r10)
  (.seq (.region false d68r11)
  (.seq (.region false d68r12)
  (.seq (.block 4 (.loop (.block 5 (.seq (.block 6 (.loop (.seq (.seq (.region true d68r13)
  (.cond (.tmp 120) .skip
  (.exit 6)))
  (.block 7 (.region false d68r14)))))
  (.seq (.block 8 (.loop (.seq (.seq (.region true d68r15)
  (.cond (.tmp 139) .skip
  (.exit 8)))
  (.block 9 (.region false d68r16)))))
  (.seq (.seq (.region false d68r17)
  (.cond (.tmp 144) (.exit 4)
  .skip))
  (.seq (.region true d68r18)
  (.seq (.region false d68r19)
  (.region false d68r20)))))))))
  (.seq (.region true d68r21)
  (.seq (.region false d68r22)
  .ret))))))))))))
def d68res : List DRes := [.slot 10, .slot 11]
theorem c68 : CodeOf Try.prog 68 178 d68 d68res := ⟨Try.f68, by kernel_rfl, by kernel_rfl, by kernel_rfl, by kernel_rfl, by kernel_rfl⟩
-- slices.siftDownCmpFunc[emendate/lattice.key]
def d75r0 : List RO := [
  ⟨.mov (.tmp 1), (some 12), none, [], none⟩,
  ⟨.mov (.tmp 12), (some 10), none, [0, 0], none⟩]
def d75r1 : List RO := [
  ⟨.mov (.tmp 10), (some 13), none, [], none⟩,
  ⟨.bin .mul (.con (.v (.int .i64 2))) (.tmp 13), (some 14), none, [0], none⟩,
  ⟨.bin .add (.tmp 14) (.con (.v (.int .i64 1))), (some 15), none, [1], none⟩,
  ⟨.mov (.tmp 15), (some 11), none, [2, 0, 1, 2], none⟩]
def d75r2 : List RO := [
  ⟨.mov (.tmp 11), (some 16), none, [], none⟩,
  ⟨.mov (.tmp 2), (some 17), none, [], none⟩,
  ⟨.bin .geq (.tmp 16) (.tmp 17), (some 18), none, [0, 1], none⟩]
def d75r3 : List RO := [
  ⟨.mov (.tmp 11), (some 19), none, [], none⟩,
  ⟨.bin .add (.tmp 19) (.con (.v (.int .i64 1))), (some 20), none, [0], none⟩,
  ⟨.mov (.tmp 2), (some 21), none, [], none⟩,
  ⟨.bin .lss (.tmp 20) (.tmp 21), (some 22), none, [1, 2], none⟩,
  ⟨.mov (.tmp 22), (some 23), none, [3], none⟩,
  ⟨.mov (.tmp 4), (some 24), (some (23, true)), [4], none⟩,
  ⟨.mov (.tmp 0), (some 25), (some (23, true)), [4], none⟩,
  ⟨.mov (.tmp 3), (some 26), (some (23, true)), [4], none⟩,
  ⟨.mov (.tmp 11), (some 27), (some (23, true)), [4], none⟩,
  ⟨.bin .add (.tmp 26) (.tmp 27), (some 28), (some (23, true)), [7, 8, 4], none⟩,
  ⟨.idxAddr 3 (.tmp 25) (.tmp 28), (some 29), (some (23, true)), [6, 9, 4], none⟩,
  ⟨.load 3 true (.tmp 29), (some 30), (some (23, true)), [10, 4], none⟩,
  ⟨.mov (.tmp 0), (some 31), (some (23, true)), [4], none⟩,
  ⟨.mov (.tmp 3), (some 32), (some (23, true)), [4], none⟩,
  ⟨.mov (.tmp 11), (some 33), (some (23, true)), [4], none⟩,
  ⟨.bin .add (.tmp 32) (.tmp 33), (some 34), (some (23, true)), [13, 14, 4], none⟩,
  ⟨.bin .add (.tmp 34) (.con (.v (.int .i64 1))), (some 35), (some (23, true)), [15, 4], none⟩,
  ⟨.idxAddr 3 (.tmp 31) (.tmp 35), (some 36), (some (23, true)), [12, 16, 4], none⟩,
  ⟨.load 3 true (.tmp 36), (some 37), (some (23, true)), [17, 4], none⟩,
  ⟨.callv (.tmp 24) [(.tmp 30), (.tmp 37)], (some 38), (some (23, true)), [5, 11, 18, 4, 4], none⟩,
  ⟨.bin .lss (.tmp 38) (.con (.v (.int .i64 0))), (some 39), (some (23, true)), [19, 4], none⟩,
  ⟨.pick (.tmp 23) (.tmp 39) (.con (.v (.bool false))), (some 40), none, [4, 20], none⟩]
def d75r4 : List RO := [
  ⟨.mov (.tmp 11), (some 41), none, [], none⟩,
  ⟨.bin .add (.tmp 41) (.con (.v (.int .i64 1))), (some 42), none, [0], none⟩,
  ⟨.mov (.tmp 42), (some 11), none, [1, 0, 1], none⟩]
def d75r5 : List RO := [
  ⟨.mov (.tmp 4), (some 43), none, [], none⟩,
  ⟨.mov (.tmp 0), (some 44), none, [], none⟩,
  ⟨.mov (.tmp 3), (some 45), none, [], none⟩,
  ⟨.mov (.tmp 10), (some 46), none, [], none⟩,
  ⟨.bin .add (.tmp 45) (.tmp 46), (some 47), none, [2, 3], none⟩,
  ⟨.idxAddr 3 (.tmp 44) (.tmp 47), (some 48), none, [1, 4], none⟩,
  ⟨.load 3 true (.tmp 48), (some 49), none, [5], none⟩,
  ⟨.mov (.tmp 0), (some 50), none, [], none⟩,
  ⟨.mov (.tmp 3), (some 51), none, [], none⟩,
  ⟨.mov (.tmp 11), (some 52), none, [], none⟩,
  ⟨.bin .add (.tmp 51) (.tmp 52), (some 53), none, [8, 9], none⟩,
  ⟨.idxAddr 3 (.tmp 50) (.tmp 53), (some 54), none, [7, 10], none⟩,
  ⟨.load 3 true (.tmp 54), (some 55), none, [11], none⟩,
  ⟨.callv (.tmp 43) [(.tmp 49), (.tmp 55)], (some 56), none, [0, 6, 12], none⟩,
  ⟨.bin .lss (.tmp 56) (.con (.v (.int .i64 0))), (some 57), none, [13], none⟩,
  ⟨.un .not (.tmp 57), (some 58), none, [14], none⟩]
def d75r6 : List RO := [
  ⟨.mov (.tmp 0), (some 59), none, [], none⟩,
  ⟨.mov (.tmp 3), (some 60), none, [], none⟩,
  ⟨.mov (.tmp 10), (some 61), none, [], none⟩,
  ⟨.bin .add (.tmp 60) (.tmp 61), (some 62), none, [1, 2], none⟩,
  ⟨.mov (.tmp 0), (some 63), none, [], none⟩,
  ⟨.mov (.tmp 3), (some 64), none, [], none⟩,
  ⟨.mov (.tmp 11), (some 65), none, [], none⟩,
  ⟨.bin .add (.tmp 64) (.tmp 65), (some 66), none, [5, 6], none⟩,
  ⟨.mov (.tmp 0), (some 67), none, [], none⟩,
  ⟨.mov (.tmp 3), (some 68), none, [], none⟩,
  ⟨.mov (.tmp 11), (some 69), none, [], none⟩,
  ⟨.bin .add (.tmp 68) (.tmp 69), (some 70), none, [9, 10], none⟩,
  ⟨.idxAddr 3 (.tmp 67) (.tmp 70), (some 71), none, [8, 11], none⟩,
  ⟨.load 3 true (.tmp 71), (some 72), none, [12], none⟩,
  ⟨.mov (.tmp 0), (some 73), none, [], none⟩,
  ⟨.mov (.tmp 3), (some 74), none, [], none⟩,
  ⟨.mov (.tmp 10), (some 75), none, [], none⟩,
  ⟨.bin .add (.tmp 74) (.tmp 75), (some 76), none, [15, 16], none⟩,
  ⟨.idxAddr 3 (.tmp 73) (.tmp 76), (some 77), none, [14, 17], none⟩,
  ⟨.load 3 true (.tmp 77), (some 78), none, [18], none⟩,
  ⟨.idxAddr 3 (.tmp 59) (.tmp 62), (some 79), none, [0, 3, 0, 1, 2, 3, 8, 9, 10, 11, 12, 13, 19], none⟩,
  ⟨.store 3 (.tmp 79) (.tmp 72), none, none, [20, 13, 0, 1, 2, 3, 8, 9, 10, 11, 12, 13, 19], none⟩,
  ⟨.idxAddr 3 (.tmp 63) (.tmp 66), (some 80), none, [4, 7, 0, 1, 2, 3, 4, 5, 6, 7, 8, 9, 10, 11, 12, 13, 14, 15, 16, 17, 18, 19, 20, 21], none⟩,
  ⟨.store 3 (.tmp 80) (.tmp 78), none, none, [22, 19, 21, 0, 1, 2, 3, 4, 5, 6, 7, 8, 9, 10, 11, 12, 13, 14, 15, 16, 17, 18, 19, 20, 21], none⟩]
def d75r7 : List RO := [
  ⟨.mov (.tmp 11), (some 81), none, [], none⟩,
  ⟨.mov (.tmp 81), (some 10), none, [0, 0], none⟩]
def d75 : DC := (.seq (.region false d75r0)
  (.block 0 (.loop (.block 1 (.seq (.region false d75r1)
  (.seq (.seq (.region false d75r2)
  (.cond (.tmp 18) (.exit 0)
  .skip))
  (.seq (.seq (.region true d75r3)
  (.cond (.tmp 40) (.region false d75r4)
  .skip))
  (.seq (.seq (.region true d75r5)
  (.cond (.tmp 58) .ret
  .skip))
  (.seq (.region true d75r6)
  (.region false d75r7))))))))))
def d75res : List DRes := []
theorem c75 : CodeOf Try.prog 75 82 d75 d75res := ⟨Try.f75, by kernel_rfl, by kernel_rfl, by kernel_rfl, by kernel_rfl, by kernel_rfl⟩
-- slices.nextPowerOfTwo
def d76r0 : List RO := [
  ⟨.mov (.con (.v (.int .u64 0))), (some 2), none, [], none⟩]
def d76r1 : List RO := [
  ⟨.mov (.tmp 0), (some 3), none, [], none⟩,
  ⟨.conv .u64 (.tmp 3), (some 4), none, [0], none⟩,
  ⟨.call 52 [(.tmp 4)], (some 5), none, [1], none⟩,
  ⟨.bin .shl (.con (.v (.int .u64 1))) (.tmp 5), (some 6), none, [2], none⟩,
  ⟨.mov (.tmp 6), (some 2), none, [3, 2, 0, 1, 2, 3], none⟩]
def d76 : DC := (.seq (.region false d76r0)
  (.seq (.region false d76r1)
  .ret))
def d76res : List DRes := [.slot 2]
theorem c76 : CodeOf Try.prog 76 7 d76 d76res := ⟨Try.f76, by kernel_rfl, by kernel_rfl, by kernel_rfl, by kernel_rfl, by kernel_rfl⟩
-- (*slices.xorshift).Next
def d77r0 : List RO := [
  ⟨.mov (.con (.v (.int .u64 0))), (some 2), none, [], none⟩]
def d77r1 : List RO := [
  ⟨.mov (.tmp 0), (some 3), none, [], none⟩,
  ⟨.nilCheck (.tmp 3), (some 4), none, [0], none⟩,
  ⟨.load 1 false (.tmp 4), (some 5), none, [1], none⟩,
  ⟨.mov (.tmp 0), (some 6), none, [], none⟩,
  ⟨.nilCheck (.tmp 6), (some 7), none, [3], none⟩,
  ⟨.load 1 false (.tmp 7), (some 8), none, [4], none⟩,
  ⟨.bin .shl (.tmp 8) (.con (.v (.int .u64 13))), (some 9), none, [5], none⟩,
  ⟨.bin .xor (.tmp 5) (.tmp 9), (some 10), none, [2, 6], none⟩,
  ⟨.nilCheck (.tmp 3), (some 11), none, [0, 0, 1, 2, 3, 4, 5, 6, 7], none⟩,
  ⟨.store 1 (.tmp 11) (.tmp 10), none, none, [8, 7, 0, 1, 2, 3, 4, 5, 6, 7], none⟩]
def d77r2 : List RO := [
  ⟨.mov (.tmp 0), (some 12), none, [], none⟩,
  ⟨.nilCheck (.tmp 12), (some 13), none, [0], none⟩,
  ⟨.load 1 false (.tmp 13), (some 14), none, [1], none⟩,
  ⟨.mov (.tmp 0), (some 15), none, [], none⟩,
  ⟨.nilCheck (.tmp 15), (some 16), none, [3], none⟩,
  ⟨.load 1 false (.tmp 16), (some 17), none, [4], none⟩,
  ⟨.bin .shr (.tmp 17) (.con (.v (.int .u64 7))), (some 18), none, [5], none⟩,
  ⟨.bin .xor (.tmp 14) (.tmp 18), (some 19), none, [2, 6], none⟩,
  ⟨.nilCheck (.tmp 12), (some 20), none, [0, 0, 1, 2, 3, 4, 5, 6, 7], none⟩,
  ⟨.store 1 (.tmp 20) (.tmp 19), none, none, [8, 7, 0, 1, 2, 3, 4, 5, 6, 7], none⟩]
def d77r3 : List RO := [
  ⟨.mov (.tmp 0), (some 21), none, [], none⟩,
  ⟨.nilCheck (.tmp 21), (some 22), none, [0], none⟩,
  ⟨.load 1 false (.tmp 22), (some 23), none, [1], none⟩,
  ⟨.mov (.tmp 0), (some 24), none, [], none⟩,
  ⟨.nilCheck (.tmp 24), (some 25), none, [3], none⟩,
  ⟨.load 1 false (.tmp 25), (some 26), none, [4], none⟩,
  ⟨.bin .shl (.tmp 26) (.con (.v (.int .u64 17))), (some 27), none, [5], none⟩,
  ⟨.bin .xor (.tmp 23) (.tmp 27), (some 28), none, [2, 6], none⟩,
  ⟨.nilCheck (.tmp 21), (some 29), none, [0, 0, 1, 2, 3, 4, 5, 6, 7], none⟩,
  ⟨.store 1 (.tmp 29) (.tmp 28), none, none, [8, 7, 0, 1, 2, 3, 4, 5, 6, 7], none⟩]
def d77r4 : List RO := [
  ⟨.mov (.tmp 0), (some 30), none, [], none⟩,
  ⟨.nilCheck (.tmp 30), (some 31), none, [0], none⟩,
  ⟨.load 1 false (.tmp 31), (some 32), none, [1], none⟩,
  ⟨.mov (.tmp 32), (some 2), none, [2, 0, 1, 2], none⟩]
def d77 : DC := (.seq (.region false d77r0)
  (.seq (.region true d77r1)
  (.seq (.region true d77r2)
  (.seq (.region true d77r3)
  (.seq (.region false d77r4)
  .ret)))))
def d77res : List DRes := [.slot 2]
theorem c77 : CodeOf Try.prog 77 33 d77 d77res := ⟨Try.f77, by kernel_rfl, by kernel_rfl, by kernel_rfl, by kernel_rfl, by kernel_rfl⟩
-- slices.medianAdjacentCmpFunc[emendate/lattice.key]
def d78r0 : List RO := [
  ⟨.mov (.con (.v (.int .i64 0))), (some 8), none, [], none⟩]
def d78r1 : List RO := [
  ⟨.mov (.tmp 0), (some 9), none, [], none⟩,
  ⟨.mov (.tmp 1), (some 10), none, [], none⟩,
  ⟨.bin .sub (.tmp 10) (.con (.v (.int .i64 1))), (some 11), none, [1], none⟩,
  ⟨.mov (.tmp 1), (some 12), none, [], none⟩,
  ⟨.mov (.tmp 1), (some 13), none, [], none⟩,
  ⟨.bin .add (.tmp 13) (.con (.v (.int .i64 1))), (some 14), none, [4], none⟩,
  ⟨.mov (.tmp 2), (some 15), none, [], none⟩,
  ⟨.mov (.tmp 3), (some 16), none, [], none⟩,
  ⟨.call 79 [(.tmp 9), (.tmp 11), (.tmp 12), (.tmp 14), (.tmp 15), (.tmp 16)], (some 17), none, [0, 2, 3, 5, 6, 7], none⟩,
  ⟨.mov (.tmp 17), (some 8), none, [8, 8, 0, 1, 2, 3, 4, 5, 6, 7, 8], none⟩]
def d78r1S : List RO := [
  ⟨.mov (.tmp 0), (some 9), none, [], none⟩,
  ⟨.mov (.tmp 1), (some 10), none, [], none⟩,
  ⟨.bin .sub (.tmp 10) (.con (.v (.int .i64 1))), (some 11), none, [1], none⟩,
  ⟨.mov (.tmp 1), (some 12), none, [], none⟩,
  ⟨.mov (.tmp 1), (some 13), none, [], none⟩,
  ⟨.bin .add (.tmp 13) (.con (.v (.int .i64 1))), (some 14), none, [4], none⟩,
  ⟨.mov (.tmp 2), (some 15), none, [], none⟩,
  ⟨.mov (.tmp 3), (some 16), none, [], none⟩,
  ⟨.callS 79 [(.tmp 9), (.tmp 11), (.tmp 12), (.tmp 14), (.tmp 15), (.tmp 16)], (some 17), none, [0, 2, 3, 5, 6, 7], none⟩,
  ⟨.mov (.tmp 17), (some 8), none, [8, 8, 0, 1, 2, 3, 4, 5, 6, 7, 8], none⟩]
def d78 : DC := (.seq (.region false d78r0)
  (.seq (.region false d78r1)
  .ret))
def d78res : List DRes := [.slot 8]
theorem c78 : CodeOf Try.prog 78 18 d78 d78res := ⟨Try.f78, by kernel_rfl, by kernel_rfl, by kernel_rfl, by kernel_rfl, by kernel_rfl⟩
-- slices.medianCmpFunc[emendate/lattice.key]
def d79r0 : List RO := [
  ⟨.mov (.con (.v (.int .i64 0))), (some 12), none, [], none⟩]
def d79r1 : List RO := [
  ⟨.mov (.tmp 0), (some 14), none, [], none⟩,
  ⟨.mov (.tmp 1), (some 15), none, [], none⟩,
  ⟨.mov (.tmp 2), (some 16), none, [], none⟩,
  ⟨.mov (.tmp 4), (some 17), none, [], none⟩,
  ⟨.mov (.tmp 5), (some 18), none, [], none⟩,
  ⟨.call 80 [(.tmp 14), (.tmp 15), (.tmp 16), (.tmp 17), (.tmp 18)], (some 19), none, [0, 1, 2, 3, 4], none⟩,
  ⟨.mov (.tmp 19), (some 13), none, [5], none⟩,
  ⟨.extract 0 (.tmp 13), (some 20), none, [6], none⟩,
  ⟨.extract 1 (.tmp 13), (some 21), none, [6], none⟩,
  ⟨.mov (.tmp 20), (some 1), none, [7, 5, 0, 1, 2, 3, 4, 5, 6, 7], none⟩,
  ⟨.mov (.tmp 21), (some 2), none, [8, 9, 0, 1, 2, 3, 4, 5, 6, 7, 8, 9], none⟩]
def d79r1S : List RO := [
  ⟨.mov (.tmp 0), (some 14), none, [], none⟩,
  ⟨.mov (.tmp 1), (some 15), none, [], none⟩,
  ⟨.mov (.tmp 2), (some 16), none, [], none⟩,
  ⟨.mov (.tmp 4), (some 17), none, [], none⟩,
  ⟨.mov (.tmp 5), (some 18), none, [], none⟩,
  ⟨.callS 80 [(.tmp 14), (.tmp 15), (.tmp 16), (.tmp 17), (.tmp 18)], (some 19), none, [0, 1, 2, 3, 4], none⟩,
  ⟨.mov (.tmp 19), (some 13), none, [5], none⟩,
  ⟨.extract 0 (.tmp 13), (some 20), none, [6], none⟩,
  ⟨.extract 1 (.tmp 13), (some 21), none, [6], none⟩,
  ⟨.mov (.tmp 20), (some 1), none, [7, 5, 0, 1, 2, 3, 4, 5, 6, 7], none⟩,
  ⟨.mov (.tmp 21), (some 2), none, [8, 9, 0, 1, 2, 3, 4, 5, 6, 7, 8, 9], none⟩]
def d79r2 : List RO := [
  ⟨.mov (.tmp 0), (some 23), none, [], none⟩,
  ⟨.mov (.tmp 2), (some 24), none, [], none⟩,
  ⟨.mov (.tmp 3), (some 25), none, [], none⟩,
  ⟨.mov (.tmp 4), (some 26), none, [], none⟩,
  ⟨.mov (.tmp 5), (some 27), none, [], none⟩,
  ⟨.call 80 [(.tmp 23), (.tmp 24), (.tmp 25), (.tmp 26), (.tmp 27)], (some 28), none, [0, 1, 2, 3, 4], none⟩,
  ⟨.mov (.tmp 28), (some 22), none, [5], none⟩,
  ⟨.extract 0 (.tmp 22), (some 29), none, [6], none⟩,
  ⟨.extract 1 (.tmp 22), (some 30), none, [6], none⟩,
  ⟨.mov (.tmp 29), (some 2), none, [7, 5, 0, 1, 2, 3, 4, 5, 6, 7], none⟩,
  ⟨.mov (.tmp 30), (some 3), none, [8, 9, 0, 1, 2, 3, 4, 5, 6, 7, 8, 9], none⟩]
def d79r2S : List RO := [
  ⟨.mov (.tmp 0), (some 23), none, [], none⟩,
  ⟨.mov (.tmp 2), (some 24), none, [], none⟩,
  ⟨.mov (.tmp 3), (some 25), none, [], none⟩,
  ⟨.mov (.tmp 4), (some 26), none, [], none⟩,
  ⟨.mov (.tmp 5), (some 27), none, [], none⟩,
  ⟨.callS 80 [(.tmp 23), (.tmp 24), (.tmp 25), (.tmp 26), (.tmp 27)], (some 28), none, [0, 1, 2, 3, 4], none⟩,
  ⟨.mov (.tmp 28), (some 22), none, [5], none⟩,
  ⟨.extract 0 (.tmp 22), (some 29), none, [6], none⟩,
  ⟨.extract 1 (.tmp 22), (some 30), none, [6], none⟩,
  ⟨.mov (.tmp 29), (some 2), none, [7, 5, 0, 1, 2, 3, 4, 5, 6, 7], none⟩,
  ⟨.mov (.tmp 30), (some 3), none, [8, 9, 0, 1, 2, 3, 4, 5, 6, 7, 8, 9], none⟩]
def d79r3 : List RO := [
  ⟨.mov (.tmp 0), (some 32), none, [], none⟩,
  ⟨.mov (.tmp 1), (some 33), none, [], none⟩,
  ⟨.mov (.tmp 2), (some 34), none, [], none⟩,
  ⟨.mov (.tmp 4), (some 35), none, [], none⟩,
  ⟨.mov (.tmp 5), (some 36), none, [], none⟩,
  ⟨.call 80 [(.tmp 32), (.tmp 33), (.tmp 34), (.tmp 35), (.tmp 36)], (some 37), none, [0, 1, 2, 3, 4], none⟩,
  ⟨.mov (.tmp 37), (some 31), none, [5], none⟩,
  ⟨.extract 0 (.tmp 31), (some 38), none, [6], none⟩,
  ⟨.extract 1 (.tmp 31), (some 39), none, [6], none⟩,
  ⟨.mov (.tmp 38), (some 1), none, [7, 5, 0, 1, 2, 3, 4, 5, 6, 7], none⟩,
  ⟨.mov (.tmp 39), (some 2), none, [8, 9, 0, 1, 2, 3, 4, 5, 6, 7, 8, 9], none⟩]
def d79r3S : List RO := [
  ⟨.mov (.tmp 0), (some 32), none, [], none⟩,
  ⟨.mov (.tmp 1), (some 33), none, [], none⟩,
  ⟨.mov (.tmp 2), (some 34), none, [], none⟩,
  ⟨.mov (.tmp 4), (some 35), none, [], none⟩,
  ⟨.mov (.tmp 5), (some 36), none, [], none⟩,
  ⟨.callS 80 [(.tmp 32), (.tmp 33), (.tmp 34), (.tmp 35), (.tmp 36)], (some 37), none, [0, 1, 2, 3, 4], none⟩,
  ⟨.mov (.tmp 37), (some 31), none, [5], none⟩,
  ⟨.extract 0 (.tmp 31), (some 38), none, [6], none⟩,
  ⟨.extract 1 (.tmp 31), (some 39), none, [6], none⟩,
  ⟨.mov (.tmp 38), (some 1), none, [7, 5, 0, 1, 2, 3, 4, 5, 6, 7], none⟩,
  ⟨.mov (.tmp 39), (some 2), none, [8, 9, 0, 1, 2, 3, 4, 5, 6, 7, 8, 9], none⟩]
def d79r4 : List RO := [
  ⟨.mov (.tmp 2), (some 40), none, [], none⟩,
  ⟨.mov (.tmp 40), (some 12), none, [0, 0], none⟩]
def d79 : DC := (.seq (.region false d79r0)
  (.seq (.region false d79r1)
  (.seq (.region false d79r2)
  (.seq (.region false d79r3)
  (.seq (.region false d79r4)
  .ret)))))
def d79res : List DRes := [.slot 12]
theorem c79 : CodeOf Try.prog 79 41 d79 d79res := ⟨Try.f79, by kernel_rfl, by kernel_rfl, by kernel_rfl, by kernel_rfl, by kernel_rfl⟩
-- slices.order2CmpFunc[emendate/lattice.key]
def d80r0 : List RO := [
  ⟨.mov (.con (.v (.int .i64 0))), (some 10), none, [], none⟩,
  ⟨.mov (.con (.v (.int .i64 0))), (some 11), none, [0], none⟩]
def d80r1 : List RO := [
  ⟨.mov (.tmp 4), (some 12), none, [], none⟩,
  ⟨.mov (.tmp 0), (some 13), none, [], none⟩,
  ⟨.mov (.tmp 2), (some 14), none, [], none⟩,
  ⟨.idxAddr 3 (.tmp 13) (.tmp 14), (some 15), none, [1, 2], none⟩,
  ⟨.load 3 true (.tmp 15), (some 16), none, [3], none⟩,
  ⟨.mov (.tmp 0), (some 17), none, [], none⟩,
  ⟨.mov (.tmp 1), (some 18), none, [], none⟩,
  ⟨.idxAddr 3 (.tmp 17) (.tmp 18), (some 19), none, [5, 6], none⟩,
  ⟨.load 3 true (.tmp 19), (some 20), none, [7], none⟩,
  ⟨.callv (.tmp 12) [(.tmp 16), (.tmp 20)], (some 21), none, [0, 4, 8], none⟩,
  ⟨.bin .lss (.tmp 21) (.con (.v (.int .i64 0))), (some 22), none, [9], none⟩]
def d80r2 : List RO := [
  ⟨.mov (.tmp 3), (some 23), none, [], none⟩,
  ⟨.nilCheck (.tmp 23), (some 24), none, [0], none⟩,
  ⟨.load 1 false (.tmp 24), (some 25), none, [1], none⟩,
  ⟨.bin .add (.tmp 25) (.con (.v (.int .i64 1))), (some 26), none, [2], none⟩,
  ⟨.nilCheck (.tmp 23), (some 27), none, [0, 0, 1, 2, 3], none⟩,
  ⟨.store 1 (.tmp 27) (.tmp 26), none, none, [4, 3, 0, 1, 2, 3], none⟩]
def d80r3 : List RO := [
  ⟨.mov (.tmp 2), (some 28), none, [], none⟩,
  ⟨.mov (.tmp 1), (some 29), none, [], none⟩,
  ⟨.mov (.tmp 28), (some 10), none, [0, 0], none⟩,
  ⟨.mov (.tmp 29), (some 11), none, [1, 2, 0, 1, 2], none⟩]
def d80r4 : List RO := [
  ⟨.mov (.tmp 1), (some 30), none, [], none⟩,
  ⟨.mov (.tmp 2), (some 31), none, [], none⟩,
  ⟨.mov (.tmp 30), (some 10), none, [0, 0], none⟩,
  ⟨.mov (.tmp 31), (some 11), none, [1, 2, 0, 1, 2], none⟩]
def d80 : DC := (.seq (.region false d80r0)
  (.seq (.seq (.region true d80r1)
  (.cond (.tmp 22) (.seq (.region false d80r2)
  (.seq (.region false d80r3)
  .ret))
  .skip))
  (.seq (.region false d80r4)
  .ret)))
def d80res : List DRes := [.slot 10, .slot 11]
theorem c80 : CodeOf Try.prog 80 32 d80 d80res := ⟨Try.f80, by kernel_rfl, by kernel_rfl, by kernel_rfl, by kernel_rfl, by kernel_rfl⟩

end Go.Proofs
