/- Part of the proof. Conditions: none. -/
import Derived.Test.YtljcdomdjgolkaaGreatDoorXac
import Derived.Test.YtljcdomdjgolkaaGreatDoorXag
import Derived.KernelRfl
import Derived.Test.YtljcdomdjgolkaaGreatDoorXae
set_option linter.unusedSectionVars false
set_option linter.unusedSimpArgs false
set_option linter.unusedVariables false
set_option maxHeartbeats 8000000
set_option maxRecDepth 100000
namespace Go.Proofs
namespace cq
open Go.DM
def abO:List RO:=[
 o (.box (t 0)) 3 [],
 o (.bQ (i 0)) 6 []]
def abP:List RO:=[
 n 1 8,
 a 1 3 9 [],
 l 9 10 [1],
 b .mul 8 10 11 [0,2],
 n 1 12,
 n 1 13,
 o (.bin .sub (t 13) (i 1)) 14 [5],
 b .mul 12 14 15 [4,6],
 o (.bin .quo (t 15) (i 2)) 16 [7],
 b .sub 11 16 17 [3,8],
 m 17 7 (k [9] 9)]
def abQ:List RO:=[
 n 7 18,
 n 2 19,
 b .add 18 19 20 [0,1],
 n 1 21,
 b .sub 20 21 22 [2,3],
 a 0 3 23 [],
 l 23 24 [5],
 b .mul 22 24 25 [4,6],
 m 25 6 (k [7] 7)]
def d64:DC:=(j (y abO)
 (j (y abP)
 (j (y abQ)
 .ret)))
def SJ:List bO:=[.slot 6]
theorem c64 [Laid]:aQ Tryz.prog 64 26 d64 SJ:=⟨Tryz.f64,by kernel_rfl,by kernel_rfl,by kernel_rfl,by kernel_rfl,by kernel_rfl⟩
def HD:List RO:=[
 o (.box (t 0)) 2 [],
 o (.box (t 1)) 3 [],
 o (.alloc [(.v (.int .i64 0)),(.v (.int .i64 0)),(.v (.int .i64 0)),(.v (.int .i64 0))]) 4 []]
def tp:List RO:=[
 a 0 3 7 [],
 l 7 8 [0],
 o (.bin .lss (t 8) (i 0)) 9 [1],
 m 9 10 [2],
 u 0 3 11 10 false [3],
 v 11 12 10 false [4,3],
 u 0 2 13 10 false [3],
 v 13 14 10 false [6,3],
 g (.bin .geq (t 12) (t 14)) 15 10 false [5,7,3],
 p 10 15 16 [3,8],
 m 16 17 [9,3],
 u 1 3 18 17 false [10],
 v 18 19 17 false [11,10],
 g (.bin .lss (t 19) (i 0)) 20 17 false [12,10],
 p 17 20 21 [10,13],
 m 21 22 [14,10],
 u 1 3 23 22 false [15],
 v 23 24 22 false [16,15],
 u 2 3 25 22 false [15],
 v 25 26 22 false [18,15],
 g (.bin .gtr (t 24) (t 26)) 27 22 false [17,19,15],
 p 22 27 28 [15,20],
 m 28 29 [21,15],
 u 2 3 30 29 false [22],
 v 30 31 29 false [23,22],
 u 1 2 32 29 false [22],
 v 32 33 29 false [25,22],
 g (.bin .geq (t 31) (t 33)) 34 29 false [24,26,22],
 p 29 34 35 [22,27]]
def HE:List RO:=[
 o (.load 4 true (.cw (.gD [(.int .i64 1099511627776),(.int .i64 0),(.int .i64 (-1)),(.int .i64 0)] 0))) 36 [],
 S 4 4 36 [0,0]]
def HF:List RO:=[
 a 2 2 37 [],
 l 37 38 [0],
 o (.len (t 38)) 39 [1],
 m 39 5 [2,0,1,2]]
def yI:List RO:=[
 a 2 3 40 [],
 l 40 41 [0],
 n 5 42,
 b .gtr 41 42 43 [1,2],
 m 43 44 [3],
 u 1 3 45 44 false [4],
 v 45 46 44 false [5,4],
 g (.bin .gtr (t 46) (i 0)) 47 44 false [6,4],
 w 47 48 44 false [7,4,4],
 u 1 2 49 48 true [8],
 v 49 50 48 true [9,8],
 w 5 51 48 true [8],
 g (.bin .gtr (t 50) (t 51)) 52 48 true [10,11,8],
 g (.pick (t 48) (t 52) (.cw (.v (.bool false)))) 53 44 false [8,12,4],
 p 44 53 54 [4,13],
 m 54 55 [14,8],
 u 2 3 56 55 false [15],
 v 56 57 55 false [16,15],
 g (.bin .gtr (t 57) (i 0)) 58 55 false [17,15],
 w 58 59 55 false [18,15,15],
 u 0 2 60 59 true [19],
 v 60 61 59 true [20,19],
 w 5 62 59 true [19],
 g (.bin .gtr (t 61) (t 62)) 63 59 true [21,22,19],
 g (.pick (t 59) (t 63) (.cw (.v (.bool false)))) 64 55 false [19,23,15],
 p 55 64 65 [15,24],
 m 65 66 [25,19],
 u 0 3 67 66 false [26],
 v 67 68 66 false [27,26],
 w 5 69 66 false [26],
 g (.bin .geq (t 68) (t 69)) 70 66 false [28,29,26],
 p 66 70 71 [26,30]]
def MZ:List RO:=[
 o (.load 4 true (.cw (.gD [(.int .i64 1099511627776),(.int .i64 0),(.int .i64 (-1)),(.int .i64 0)] 0))) 72 [],
 S 4 4 72 [0,0]]
def HG:List RO:=[
 L 3 2 73 [],
 a 1 3 74 [],
 l 74 75 [1],
 a 2 3 76 [],
 l 76 77 [3],
 o (.call 64 [(t 73),(t 75),(t 77)]) 78 [0,2,4],
 a 0 3 79 [],
 l 79 80 [6],
 b .add 78 80 81 [5,7],
 m 81 6 (k [8,5] 8)]
def abR:List RO:=[
 n 6 82,
 n 5 83,
 b .geq 82 83 84 [0,1]]
def d37r8:List RO:=[
 o (.load 4 true (.cw (.gD [(.int .i64 1099511627776),(.int .i64 0),(.int .i64 (-1)),(.int .i64 0)] 0))) 85 [],
 S 4 4 85 [0,0]]
def abS:List RO:=[
 a 2 2 86 [],
 l 86 87 [0],
 n 6 88,
 x 4 87 88 89 [1,2],
 L 4 89 90 [3],
 S 4 4 90 (k [4] 4)]
def d37:DC:=(j (y HD)
 (j (j (y tp)
 (.cond (.tmp 35) (j (y HE)
 .ret)
 .skip))
 (j (y HF)
 (j (j (y yI)
 (.cond (.tmp 71) (j (y MZ)
 .ret)
 .skip))
 (j (Y HG)
 (j (j (y abR)
 (.cond (.tmp 84) (j (y d37r8)
 .ret)
 .skip))
 (j (y abS)
 .ret)))))))
def xq:List bO:=[.cell 4 4 true]
theorem c37:aQ Tryz.prog 37 91 d37 xq:=⟨Tryz.f37,by kernel_rfl,by kernel_rfl,by kernel_rfl,by kernel_rfl,by kernel_rfl⟩
def abT:List RO:=[
 o (.box (t 0)) 2 [],
 o (.box (t 1)) 3 [],
 o (.bQ (.cw (.v (.bool false)))) 4 []]
def HH:List RO:=[
 a 0 2 5 [],
 l 5 6 [0],
 a 0 3 7 [],
 l 7 8 [2],
 b .lss 6 8 9 [1,3],
 m 9 10 [4],
 u 0 2 11 10 false [5],
 v 11 12 10 false [6,5],
 u 0 3 13 10 false [5],
 v 13 14 10 false [8,5],
 g (.bin .eql (t 12) (t 14)) 15 10 false [7,9,5],
 w 15 16 10 false [10,5,5],
 u 1 2 17 16 true [11],
 v 17 18 16 true [12,11],
 u 1 3 19 16 true [11],
 v 19 20 16 true [14,11],
 g (.bin .lss (t 18) (t 20)) 21 16 true [13,15,11],
 g (.pick (t 16) (t 21) (.cw (.v (.bool false)))) 22 10 false [11,16,5],
 p 10 22 23 [5,17],
 m 23 4 (k [18,11] 18)]
def d56:DC:=(j (y abT)
 (j (y HH)
 .ret))
def SK:List bO:=[.slot 4]
theorem c56 [Laid]:aQ Tryz.prog 56 24 d56 SK:=⟨Tryz.f56,by kernel_rfl,by kernel_rfl,by kernel_rfl,by kernel_rfl,by kernel_rfl⟩
def abU:List RO:=[
 o (.alloc [(.v (.int .i64 0)),(.v (.int .i64 0))]) 4 []]
def abV:List RO:=[
 n 0 8,
 o (.minmax false (t 8) (i 1099511627776)) 9 [0],
 o (.build [(.v (.int .i64 0)),(.v (.int .i64 0))] [(0,1,(t 9)),(1,1,(i 1))]) 10 [1],
 o (.alloc [(.v (.int .i64 0)),(.v (.int .i64 0))]) 5 [],
 S 2 5 10 [3,2,0,1,2,3]]
def abW:List RO:=[
 n 1 11,
 o (.len (t 11)) 12 [0],
 o (.bQ (i 0)) 13 []]
def abX:List RO:=[
 b .lss 13 12 14 []]
def abY:List RO:=[
 x 2 11 13 15 [],
 L 2 15 16 [0],
 o (.alloc [(.v (.int .i64 0)),(.v (.int .i64 0))]) 7 [],
 S 2 7 16 [2,1,0,1,2]]
def abZ:List RO:=[
 a 0 5 17 [],
 l 17 18 [0],
 a 0 7 19 [],
 l 19 20 [2],
 b .add 18 20 21 [1,3],
 o (.minmax false (t 21) (i 1099511627776)) 22 [4],
 a 0 5 23 (k [] 5),
 S 1 23 22 (k [6,5] 5)]
def ab0:List RO:=[
 a 1 5 24 [],
 l 24 25 [0],
 a 1 7 26 [],
 l 26 27 [2],
 b .add 25 27 28 [1,3],
 o (.minmax false (t 28) (i 1099511627776)) 29 [4],
 a 1 5 30 (k [] 5),
 S 1 30 29 (k [6,5] 5)]
def ab1:List RO:=[
 o (.bin .add (t 13) (i 1)) 31 [],
 m 31 13 [0]]
def ab2:List RO:=[
 a 0 5 32 [],
 l 32 33 [0],
 o (.bin .eql (t 33) (i 1099511627776)) 34 [1]]
def ab3:List RO:=[
 o (.build [(.v (.int .i64 0)),(.v (.int .i64 0))] [(0,1,(i 1099511627776))]) 35 [],
 S 2 4 35 [0,0]]
def SL:List RO:=[
 L 2 5 36 [],
 S 2 4 36 [0,0]]
def d84:DC:=(j (y abU)
 (j (y abV)
 (j (j (y abW)
 (.block 0 (.loop (j (y abX)
 (j (.cond (.tmp 14) .skip
 (.exit 0))
 (j (.block 1 (j (y abY)
 (j (y abZ)
 (y ab0))))
 (y ab1)))))))
 (j (j (y ab2)
 (.cond (.tmp 34) (j (y ab3)
 .ret)
 .skip))
 (j (y SL)
 .ret)))))
def Kq:List bO:=[.cell 4 2 true]
theorem c84 [Laid]:aQ Tryz.prog 84 37 d84 Kq:=⟨Tryz.f84,by kernel_rfl,by kernel_rfl,by kernel_rfl,by kernel_rfl,by kernel_rfl⟩
def ab4:List RO:=[
 o (.box (t 0)) 2 [],
 o (.bQ (.cw (.v (.bool false)))) 4 []]
def Bc:List RO:=[
 a 0 2 5 [],
 l 5 6 [0],
 o (.bin .eql (t 6) (i 3)) 7 [1],
 m 7 8 [2],
 u 2 2 9 8 true [3],
 v 9 10 8 true [4,3],
 w 1 11 8 true [3],
 g (.bin .eql (t 10) (t 11)) 12 8 true [5,6,3],
 q 8 12 13 [3,7],
 m 13 14 [8,3],
 u 0 2 15 14 false [9],
 v 15 16 14 false [10,9],
 g (.bin .eql (t 16) (i 4)) 17 14 false [11,9],
 w 17 18 14 false [12,9,9],
 u 2 2 19 18 true [13],
 v 19 20 18 true [14,13],
 w 1 21 18 true [13],
 g (.bin .eql (t 20) (t 21)) 22 18 true [15,16,13],
 w 22 23 18 true [17,13,13],
 u 3 2 24 23 false [18],
 v 24 25 23 false [19,18],
 w 1 26 23 false [18],
 g (.bin .eql (t 25) (t 26)) 27 23 false [20,21,18],
 g (.pick (t 23) (.cw (.v (.bool true))) (t 27)) 28 18 true [18,22,13],
 g (.pick (t 18) (t 28) (.cw (.v (.bool false)))) 29 14 false [13,23,9],
 p 14 29 30 [9,24],
 m 30 4 (k [25,18] 25)]
def d86:DC:=(j (y ab4)
 (j (y Bc)
 .ret))
def SN:List bO:=[.slot 4]
theorem c86 [Laid]:aQ Tryz.prog 86 31 d86 SN:=⟨Tryz.f86,by kernel_rfl,by kernel_rfl,by kernel_rfl,by kernel_rfl,by kernel_rfl⟩
def ab5:List RO:=[
 o (.alloc [(.v (.int .i64 0)),(.v (.int .i64 0))]) 8 []]
def M0:List RO:=[
 n 2 9,
 n 0 10,
 c 10 11 [1],
 a 10 11 12 [2],
 l 12 13 [3],
 b .eql 9 13 14 [0,4],
 m 14 15 [5],
 w 3 16 15 true [6],
 w 0 17 15 true [6],
 g (.nilCheck (t 17)) 18 15 true [8,6],
 u 11 18 19 15 true [9,6],
 v 19 20 15 true [10,6],
 g (.bin .eql (t 16) (t 20)) 21 15 true [7,11,6],
 q 15 21 22 [6,12]]
def ab6:List RO:=[
 n 0 23,
 c 23 24 [0],
 a 12 24 25 [1],
 l 25 26 [2],
 n 1 27,
 x 2 26 27 28 [3,4],
 L 2 28 29 [5],
 S 2 8 29 (k [6] 6)]
def ab7:List RO:=[
 n 0 30,
 c 30 31 [0],
 a 7 31 32 [1],
 L 3 32 33 [2],
 n 1 34,
 n 2 35,
 n 3 36,
 o (.build [(.v (.int .i64 0)),(.v (.int .i64 0)),(.v (.int .i64 0))] [(0,1,(t 34)),(1,1,(t 35)),(2,1,(t 36))]) 37 [4,5,6],
 o (.call 37 [(t 33),(t 37)]) 38 [3,7],
 o (.field 0 2 true (t 38)) 39 [8],
 S 2 8 39 (k [9,8] 9)]
def d83:DC:=(j (y ab5)
 (j (j (y M0)
 (.cond (.tmp 22) (j (y ab6)
 .ret)
 .skip))
 (j (y ab7)
 .ret)))
def Kr:List bO:=[.cell 8 2 true]
theorem c83 [Laid]:aQ Tryz.prog 83 40 d83 Kr:=⟨Tryz.f83,by kernel_rfl,by kernel_rfl,by kernel_rfl,by kernel_rfl,by kernel_rfl⟩
def SO:List RO:=[
 o (.bQ (.cw (.v (.bool false)))) 4 []]
def SP:List RO:=[
 n 1 7,
 o (.len (t 7)) 8 [0],
 o (.bQ (i 0)) 9 []]
def SQ:List RO:=[
 b .lss 9 8 10 []]
def ab8:List RO:=[
 x 3 7 9 11 [],
 L 3 11 12 [0],
 o (.alloc [(.v (.int .i64 0)),(.v (.int .i64 0)),(.v (.int .i64 0))]) 6 [],
 S 3 6 12 [2,1,0,1,2]]
def M1:List RO:=[
 a 1 6 13 [],
 l 13 14 [0],
 n 0 15,
 c 15 16 [2],
 a 10 16 17 [3],
 l 17 18 [4],
 b .eql 14 18 19 [1,5],
 m 19 20 [6],
 u 2 6 21 20 true [7],
 v 21 22 20 true [8,7],
 w 0 23 20 true [7],
 g (.nilCheck (t 23)) 24 20 true [10,7],
 u 11 24 25 20 true [11,7],
 v 25 26 20 true [12,7],
 g (.bin .eql (t 22) (t 26)) 27 20 true [9,13,7],
 q 20 27 28 [7,14]]
def ab9:List RO:=[
 o (.bQ (.cw (.v (.bool true)))) 4 []]
def aca:List RO:=[
 o (.bin .add (t 9) (i 1)) 29 [],
 m 29 9 [0]]
def SR:List RO:=[
 o (.bQ (.cw (.v (.bool false)))) 4 []]
def d59:DC:=(j (y SO)
 (j (j (y SP)
 (.block 0 (.loop (j (y SQ)
 (j (.cond (.tmp 10) .skip
 (.exit 0))
 (j (.block 1 (j (y ab8)
 (j (Y M1)
 (.cond (.tmp 28) (j (y ab9)
 .ret)
 .skip))))
 (y aca)))))))
 (j (y SR)
 .ret)))
def EU:List bO:=[.slot 4]
theorem c59 [Laid]:aQ Tryz.prog 59 30 d59 EU:=⟨Tryz.f59,by kernel_rfl,by kernel_rfl,by kernel_rfl,by kernel_rfl,by kernel_rfl⟩
def SS:List RO:=[
 o (.alloc [(.v (.int .i64 0)),(.v (.int .i64 0))]) 6 []]
def SU:List RO:=[
 o (.bQ (.cw .aH)) 7 []]
def SX:List RO:=[
 n 2 10,
 o (.len (t 10)) 11 [0],
 o (.bQ (i 0)) 12 []]
def SY:List RO:=[
 b .lss 12 11 13 []]
def acb:List RO:=[
 x 3 10 12 14 [],
 L 3 14 15 [0],
 o (.alloc [(.v (.int .i64 0)),(.v (.int .i64 0)),(.v (.int .i64 0))]) 9 [],
 S 3 9 15 [2,1,0,1,2]]
def Ks:List RO:=[
 n 7 16,
 n 0 17,
 a 0 9 18 [],
 l 18 19 [2],
 a 1 9 20 [],
 l 20 21 [4],
 a 2 9 22 [],
 l 22 23 [6],
 o (.callS 83 [(t 17),(t 19),(t 21),(t 23)]) 24 [1,3,5,7],
 o (.bslice 1 2 [(.v (.int .i64 0)),(.v (.int .i64 0))] [(0,2,(t 24))]) 25 [8],
 o (.append 55 2 16 (t 16) (t 25)) 26 [0,9,8],
 m 26 7 (k [10,10] 10)]
def d61r5:List RO:=Ks.map bare
def acd:List RO:=[
 o (.bin .add (t 12) (i 1)) 27 [],
 m 27 12 [0]]
def SZ:List RO:=[
 n 1 28,
 n 7 29,
 o (.call 84 [(t 28),(t 29)]) 30 [0,1],
 S 2 6 30 [2,2,0,1,2]]
def d61:DC:=(j (y SS)
 (j (y SU)
 (j (j (y SX)
 (.block 0 (.loop (j (y SY)
 (j (.cond (.tmp 13) .skip
 (.exit 0))
 (j (.block 1 (j (y acb)
 (y d61r5)))
 (y acd)))))))
 (j (y SZ)
 .ret))))
def Kt:List bO:=[.cell 6 2 true]
theorem c61 [Laid]:aQ Tryz.prog 61 31 d61 Kt:=⟨Tryz.f61,by kernel_rfl,by kernel_rfl,by kernel_rfl,by kernel_rfl,by kernel_rfl⟩
def ace:List RO:=[
 o (.bQ (.cw (.v (.bool false)))) 4 []]
def acf:List RO:=[
 n 1 7,
 o (.len (t 7)) 8 [0],
 o (.bQ (i 0)) 9 []]
def acg:List RO:=[
 b .lss 9 8 10 []]
def ach:List RO:=[
 x 3 7 9 11 [],
 L 3 11 12 [0],
 o (.alloc [(.v (.int .i64 0)),(.v (.int .i64 0)),(.v (.int .i64 0))]) 6 [],
 S 3 6 12 [2,1,0,1,2]]
def M3:List RO:=[
 a 1 6 13 [],
 l 13 14 [0],
 n 0 15,
 c 15 16 [2],
 a 10 16 17 [3],
 l 17 18 [4],
 b .eql 14 18 19 [1,5],
 m 19 20 [6],
 u 2 6 21 20 true [7],
 v 21 22 20 true [8,7],
 w 0 23 20 true [7],
 g (.nilCheck (t 23)) 24 20 true [10,7],
 u 11 24 25 20 true [11,7],
 v 25 26 20 true [12,7],
 g (.bin .eql (t 22) (t 26)) 27 20 true [9,13,7],
 q 20 27 28 [7,14],
 m 28 29 [15,7],
 w 0 30 29 true [16],
 g (.nilCheck (t 30)) 31 29 true [17,16],
 u 13 31 32 29 true [18,16],
 v 32 33 29 true [19,16],
 u 0 6 34 29 true [16],
 v 34 35 29 true [21,16],
 g (.idxAddr 1 (t 33) (t 35)) 36 29 true [20,22,16],
 v 36 37 29 true [23,16],
 g (.un .not (t 37)) 38 29 true [24,16],
 q 29 38 39 [16,25]]
def aci:List RO:=[
 o (.bQ (.cw (.v (.bool false)))) 4 []]
def acj:List RO:=[
 o (.bin .add (t 9) (i 1)) 40 [],
 m 40 9 [0]]
def ack:List RO:=[
 o (.bQ (.cw (.v (.bool true)))) 4 []]
def d89:DC:=(j (y ace)
 (j (j (y acf)
 (.block 0 (.loop (j (y acg)
 (j (.cond (.tmp 10) .skip
 (.exit 0))
 (j (.block 1 (j (y ach)
 (j (Y M3)
 (.cond (.tmp 39) (j (y aci)
 .ret)
 .skip))))
 (y acj)))))))
 (j (y ack)
 .ret)))
def Ku:List bO:=[.slot 4]
theorem c89 [Laid]:aQ Tryz.prog 89 41 d89 Ku:=⟨Tryz.f89,by kernel_rfl,by kernel_rfl,by kernel_rfl,by kernel_rfl,by kernel_rfl⟩
def HI:List RO:=[
 o (.bQ (.cw (.v (.raw (Go.Value.pointer Option.none))))) 2 []]
def HJ:List RO:=[
 n 0 3,
 o (.mkMap [(.int .i64)] false) 4 [],
 o (.build [(.v (.raw (Go.Value.nilFunc))),.aH,(.v (.raw (Go.Value.map Option.none))),(.v (.int .i64 0)),(.v (.int .i64 0))] [(0,1,(t 3)),(2,1,(t 4))]) 5 [0,1],
 o (.box (t 5)) 6 [2],
 m 6 2 [3,0,1,2,3]]
def d54:DC:=(j (y HI)
 (j (y HJ)
 .ret))
def xu:List bO:=[.slot 2]
theorem c54 [Laid]:aQ Tryz.prog 54 7 d54 xu:=⟨Tryz.f54,by kernel_rfl,by kernel_rfl,by kernel_rfl,by kernel_rfl,by kernel_rfl⟩
def S0:List RO:=[
 o (.bQ (.cw (.v (.bool false)))) 6 []]
def Kv:List RO:=[
 n 0 9,
 c 9 10 [0],
 a 1 10 11 [1],
 l 11 12 [2],
 n 1 13,
 x 3 12 13 14 [3,4],
 L 3 14 15 [5],
 n 0 16,
 c 16 17 [7],
 a 1 17 18 [8],
 l 18 19 [9],
 n 2 20,
 x 3 19 20 21 [10,11],
 L 3 21 22 [12],
 o (.alloc [(.v (.int .i64 0)),(.v (.int .i64 0)),(.v (.int .i64 0))]) 7 [],
 o (.alloc [(.v (.int .i64 0)),(.v (.int .i64 0)),(.v (.int .i64 0))]) 8 [],
 S 3 7 15 [14,6,0,1,2,3,4,5,6,14,15],
 S 3 8 22 (k [15,13,16] 16)]
def S3:List RO:=[
 n 0 23,
 c 23 24 [0],
 a 0 24 25 [1],
 l 25 26 [2],
 a 0 7 27 [],
 l 27 28 [4],
 a 0 8 29 [],
 l 29 30 [6],
 o (.callv (t 26) [(t 28),(t 30)]) 31 [3,5,7]]
def S4:List RO:=[
 o (.bQ (.cw (.v (.bool true)))) 6 []]
def Kw:List RO:=[
 n 0 32,
 c 32 33 [0],
 a 0 33 34 [1],
 l 34 35 [2],
 a 0 8 36 [],
 l 36 37 [4],
 a 0 7 38 [],
 l 38 39 [6],
 o (.callv (t 35) [(t 37),(t 39)]) 40 [3,5,7],
 o (.un .not (t 40)) 41 [8],
 m 41 42 [9,8],
 u 2 7 43 42 true [10],
 v 43 44 42 true [11,10],
 u 2 8 45 42 true [10],
 v 45 46 42 true [13,10],
 g (.bin .lss (t 44) (t 46)) 47 42 true [12,14,10],
 q 42 47 48 [10,15],
 m 48 6 (k [16,10] 16)]
def d117:DC:=(j (y S0)
 (j (.jX Kv)
 (j (j (Y S3)
 (.cond (.tmp 31) (j (y S4)
 .ret)
 .skip))
 (j (Y Kw)
 .ret))))
def EV:List bO:=[.slot 6]
theorem c117 [Laid]:aQ Tryz.prog 117 49 d117 EV:=⟨Tryz.f117,by kernel_rfl,by kernel_rfl,by kernel_rfl,by kernel_rfl,by kernel_rfl⟩
def S5:List RO:=[
 n 0 6,
 c 6 7 [0],
 a 1 7 8 [1],
 l 8 9 [2],
 n 1 10,
 n 0 11,
 c 11 12 [5],
 a 1 12 13 [6],
 l 13 14 [7],
 n 2 15,
 n 0 16,
 c 16 17 [10],
 a 1 17 18 [11],
 l 18 19 [12],
 n 2 20,
 x 3 19 20 21 [13,14],
 L 3 21 22 [15],
 n 0 23,
 c 23 24 [17],
 a 1 24 25 [18],
 l 25 26 [19],
 n 1 27,
 x 3 26 27 28 [20,21],
 L 3 28 29 [22],
 x 3 9 10 30 [3,4,0,1,2,3,4,8,10,11,12,13,14,15,16,20,23],
 S 3 30 22 [24,16,0,1,2,3,4,8,10,11,12,13,14,15,16,20,23],
 x 3 14 15 31 (k [8,9] 25),
 S 3 31 29 (k [26,23,25] 25)]
def S6:List RO:=[
 n 0 32,
 c 32 33 [0],
 a 2 33 34 [1],
 l 34 35 [2],
 n 0 36,
 c 36 37 [4],
 a 1 37 38 [5],
 l 38 39 [6],
 n 1 40,
 x 3 39 40 41 [7,8],
 a 1 41 42 [9],
 l 42 43 [10],
 n 0 44,
 c 44 45 [12],
 a 2 45 46 [13],
 l 46 47 [14],
 n 0 48,
 c 48 49 [16],
 a 1 49 50 [17],
 l 50 51 [18],
 n 2 52,
 x 3 51 52 53 [19,20],
 a 1 53 54 [21],
 l 54 55 [22],
 n 1 56,
 n 2 57,
 o (.mapEnt [(.int .i64)] false (.v (.int .i64 0)) (t 35) (t 43)) 58 [3,11,15,19,23],
 e 1 58 59 [26],
 s (.entSt (t 35) (t 59) (t 56)) [3,27,24,26,0,1,2,3,4,5,6,7,8,9,10,11,15,19,23,24,26],
 o (.mapEnt [(.int .i64)] false (.v (.int .i64 0)) (t 47) (t 55)) 60 [15,23,28,0,1,2,3,4,5,6,7,8,9,10,11,15,19,23,24,26,27,28],
 e 1 60 61 [29],
 s (.entSt (t 47) (t 61) (t 57)) (k [15,30,25,29] 29)]
def d111:DC:=(j (Y S5)
 (Y S6))
def M4:List bO:=[]
theorem c111 [Laid]:aQ Tryz.prog 111 62 d111 M4:=⟨Tryz.f111,by kernel_rfl,by kernel_rfl,by kernel_rfl,by kernel_rfl,by kernel_rfl⟩
def vE:List RO:=[
 n 1 4,
 o (.bin .gtr (t 4) (i 0)) 5 [0],
 m 5 6 [1],
 w 0 7 6 true [2],
 w 1 8 6 true [2],
 w 1 9 6 true [2],
 g (.bin .sub (t 9) (i 1)) 10 6 true [5,2],
 g (.bin .quo (t 10) (i 2)) 11 6 true [6,2],
 g (.callS 117 [(t 7),(t 8),(t 11)]) 12 6 true [3,4,7,2,2],
 q 6 12 13 [2,8]]
def d109r0:List RO:=vE.map bare
def EW:List RO:=[
 n 0 14,
 n 1 15,
 n 1 16,
 o (.bin .sub (t 16) (i 1)) 17 [2],
 o (.bin .quo (t 17) (i 2)) 18 [3],
 o (.callS 111 [(t 14),(t 15),(t 18)]) 19 [0,1,4]]
def d109r1:List RO:=EW.map bare
def S7:List RO:=[
 n 1 20,
 o (.bin .sub (t 20) (i 1)) 21 [0],
 o (.bin .quo (t 21) (i 2)) 22 [1],
 m 22 1 [2,0,1,2]]
def d109:DC:=(.block 0 (.loop (j (j (y d109r0)
 (.cond (.tmp 13) .skip
 (.exit 0)))
 (.block 1 (j (y d109r1)
 (y S7))))))
def EX:List bO:=[]
theorem c109 [Laid]:aQ Tryz.prog 109 23 d109 EX:=⟨Tryz.f109,by kernel_rfl,by kernel_rfl,by kernel_rfl,by kernel_rfl,by kernel_rfl⟩
def S8:List RO:=[
 n 1 6,
 m 6 4 [0,0]]
def S9:List RO:=[
 n 1 7,
 o (.bin .mul (i 2) (t 7)) 8 [0],
 o (.bin .add (t 8) (i 1)) 9 [1],
 m 9 5 [2,0,1,2]]
def EY:List RO:=[
 n 5 10,
 n 1 11,
 o (.bin .mul (i 2) (t 11)) 12 [1],
 o (.bin .add (t 12) (i 2)) 13 [2],
 b .leq 10 13 14 [0,3],
 m 14 15 [4],
 w 5 16 15 true [5],
 w 0 17 15 true [5],
 g (.nilCheck (t 17)) 18 15 true [7,5],
 u 1 18 19 15 true [8,5],
 v 19 20 15 true [9,5],
 g (.len (t 20)) 21 15 true [10,5],
 g (.bin .lss (t 16) (t 21)) 22 15 true [6,11,5],
 q 15 22 23 [5,12]]
def EZ:List RO:=[
 n 0 26,
 n 5 27,
 n 4 28,
 o (.callS 117 [(t 26),(t 27),(t 28)]) 29 [0,1,2]]
def d110r3:List RO:=EZ.map bare
def Ta:List RO:=[
 n 5 30,
 m 30 4 [0,0]]
def Tb:List RO:=[
 n 5 24,
 o (.bin .add (t 24) (i 1)) 25 [0],
 m 25 5 [1,0,1]]
def Tc:List RO:=[
 n 4 31,
 n 1 32,
 b .eql 31 32 33 [0,1]]
def E0:List RO:=[
 n 0 34,
 n 1 35,
 n 4 36,
 o (.callS 111 [(t 34),(t 35),(t 36)]) 37 [0,1,2]]
def d110r7:List RO:=E0.map bare
def Td:List RO:=[
 n 4 38,
 m 38 1 [0,0]]
def d110:DC:=(.block 0 (.loop (.block 1 (j (y S8)
 (j (j (y S9)
 (.block 2 (.loop (j (j (y EY)
 (.cond (.tmp 23) .skip
 (.exit 2)))
 (j (.block 3 (j (y d110r3)
 (.cond (.tmp 29) (y Ta)
 .skip)))
 (y Tb))))))
 (j (j (y Tc)
 (.cond (.tmp 33) .ret
 .skip))
 (j (y d110r7)
 (y Td))))))))
def M6:List bO:=[]
theorem c110 [Laid]:aQ Tryz.prog 110 39 d110 M6:=⟨Tryz.f110,by kernel_rfl,by kernel_rfl,by kernel_rfl,by kernel_rfl,by kernel_rfl⟩
def acm:List RO:=[
 o (.bQ (i 0)) 4 []]
def acn:List RO:=[
 n 0 7,
 c 7 8 [0],
 a 3 8 9 [1],
 l 9 10 [2],
 n 0 11,
 c 11 12 [4],
 a 1 12 13 [5],
 l 13 14 [6],
 o (.len (t 14)) 15 [7],
 m 10 5 [3,0,1,2,3],
 m 15 6 (k [8,9] 9)]
def aco:List RO:=[
 n 0 16,
 n 0 17,
 c 17 18 [1],
 a 1 18 19 [2],
 l 19 20 [3],
 n 1 21,
 n 5 22,
 n 0 23,
 c 23 24 [7],
 a 4 24 25 [8],
 l 25 26 [9],
 o (.build [(.v (.int .i64 0)),(.v (.int .i64 0)),(.v (.int .i64 0))] [(0,1,(t 21)),(1,1,(t 22)),(2,1,(t 26))]) 27 [5,6,10],
 o (.bslice 1 3 [(.v (.int .i64 0)),(.v (.int .i64 0)),(.v (.int .i64 0))] [(0,3,(t 27))]) 28 [11],
 o (.append 177 3 24 (t 20) (t 28)) 29 [4,12],
 c 16 30 (k [0] 13),
 a 1 30 31 (k [14] 13),
 S 1 31 29 (k [15,13,13] 13)]
def acp:List RO:=[
 n 0 32,
 c 32 33 [0],
 a 2 33 34 [1],
 l 34 35 [2],
 n 5 36,
 n 6 37,
 s (.mapUpd [(.int .i64)] false (t 35) (t 36) (t 37)) (k [3,4,5] 5)]
def acq:List RO:=[
 n 0 38,
 n 0 39,
 n 0 40,
 c 40 41 [2],
 a 3 41 42 [3],
 l 42 43 [4],
 o (.bin .add (t 43) (i 1)) 44 [5],
 n 0 45,
 c 45 46 [7],
 a 4 46 47 [8],
 l 47 48 [9],
 o (.bin .add (t 48) (i 1)) 49 [10],
 c 38 50 [0,0,2,3,4,5,6,10],
 a 3 50 51 [12,0,2,3,4,5,6,10],
 S 1 51 44 [13,6,0,2,3,4,5,6,10],
 c 39 52 (k [1] 14),
 a 4 52 53 (k [15] 14),
 S 1 53 49 (k [16,11,14] 14)]
def Ky:List RO:=[
 n 0 54,
 n 6 55,
 o (.callS 109 [(t 54),(t 55)]) 56 [0,1]]
def d82r5:List RO:=Ky.map bare
def acr:List RO:=[
 n 5 57,
 m 57 4 [0,0]]
def d82:DC:=(j (y acm)
 (j (Y acn)
 (j (Y aco)
 (j (y acp)
 (j (Y acq)
 (j (y d82r5)
 (j (y acr)
 .ret)))))))
def Te:List bO:=[.slot 4]
theorem c82 [Laid]:aQ Tryz.prog 82 58 d82 Te:=⟨Tryz.f82,by kernel_rfl,by kernel_rfl,by kernel_rfl,by kernel_rfl,by kernel_rfl⟩
def acs:List RO:=[
 o (.bQ (i 0)) 2 [],
 o (.bQ (.cw (.v (.bool false)))) 3 [0]]
def acu:List RO:=[
 n 0 6,
 c 6 7 [0],
 a 1 7 8 [1],
 l 8 9 [2],
 o (.len (t 9)) 10 [3],
 o (.bin .eql (t 10) (i 0)) 11 [4]]
def acv:List RO:=[
 o (.alloc [(.v (.int .i64 0))]) 12 [],
 c 12 13 [0],
 l 13 14 [1],
 m 14 2 [2,0,1,2],
 o (.bQ (.cw (.v (.bool false)))) 3 [3,0,1,2,3]]
def Tf:List RO:=[
 n 0 15,
 c 15 16 [0],
 a 1 16 17 [1],
 l 17 18 [2],
 o (.idxAddr 3 (t 18) (i 0)) 19 [3],
 L 3 19 20 [4],
 n 0 21,
 c 21 22 [6],
 a 1 22 23 [7],
 l 23 24 [8],
 o (.len (t 24)) 25 [9],
 o (.bin .sub (t 25) (i 1)) 26 [10],
 o (.alloc [(.v (.int .i64 0)),(.v (.int .i64 0)),(.v (.int .i64 0))]) 4 [],
 S 3 4 20 [12,5,0,1,2,3,4,5,12],
 m 26 5 (k [11,13] 13)]
def Kz:List RO:=[
 n 0 27,
 n 5 28,
 o (.callS 111 [(t 27),(i 0),(t 28)]) 29 [0,1]]
def d85r4:List RO:=Kz.map bare
def acw:List RO:=[
 n 0 30,
 n 0 31,
 c 31 32 [1],
 a 1 32 33 [2],
 l 33 34 [3],
 n 5 35,
 o (.slice 3 (t 34) none (some (t 35))) 36 [4,5],
 c 30 37 (k [0] 6),
 a 1 37 38 (k [7] 6),
 S 1 38 36 (k [8,6] 6)]
def acx:List RO:=[
 n 0 39,
 c 39 40 [0],
 a 2 40 41 [1],
 l 41 42 [2],
 a 1 4 43 [],
 l 43 44 [4],
 s (.mapDel [(.int .i64)] false (t 42) (t 44)) [3,5]]
def KA:List RO:=[
 n 0 45,
 o (.callS 110 [(t 45),(i 0)]) 46 [0]]
def d85r7:List RO:=KA.map bare
def acy:List RO:=[
 a 0 4 47 [],
 l 47 48 [0],
 m 48 2 [1,0,1],
 o (.bQ (.cw (.v (.bool true)))) 3 [2,0,1,2]]
def d85:DC:=(j (y acs)
 (j (j (y acu)
 (.cond (.tmp 11) (j (y acv)
 .ret)
 .skip))
 (j (.jX Tf)
 (j (y d85r4)
 (j (y acw)
 (j (Y acx)
 (j (y d85r7)
 (j (y acy)
 .ret))))))))
def KB:List bO:=[.slot 2,.slot 3]
theorem c85 [Laid]:aQ Tryz.prog 85 49 d85 KB:=⟨Tryz.f85,by kernel_rfl,by kernel_rfl,by kernel_rfl,by kernel_rfl,by kernel_rfl⟩
def acz:List RO:=[
 o (.bQ (.cw (.v (.bool false)))) 6 []]
def acA:List RO:=[
 n 0 10,
 c 10 11 [0],
 a 2 11 12 [1],
 l 12 13 [2],
 n 1 14,
 o (.lookup [(.int .i64)] false (.v (.int .i64 0)) true (t 13) (t 14)) 15 [3,4],
 m 15 9 [5],
 e 0 9 16 [6],
 e 1 9 17 [6],
 m 16 7 (k [7] 7),
 m 17 8 (k [8,9] 9)]
def acB:List RO:=[
 n 8 18,
 o (.un .not (t 18)) 19 [0]]
def d81r3:List RO:=[
 o (.bQ (.cw (.v (.bool false)))) 6 []]
def acC:List RO:=[
 n 0 20,
 c 20 21 [0],
 a 1 21 22 [1],
 l 22 23 [2],
 n 7 24,
 n 0 25,
 c 25 26 [5],
 a 1 26 27 [6],
 l 27 28 [7],
 n 7 29,
 n 2 30,
 n 0 31,
 c 31 32 [11],
 a 4 32 33 [12],
 l 33 34 [13],
 x 3 23 24 35 [3,4,0,1,2,3,4,8,10,14],
 a 0 35 36 [15,0,1,2,3,4,8,10,14],
 S 1 36 30 [16,10,0,1,2,3,4,8,10,14],
 x 3 28 29 37 (k [8,9] 17),
 a 2 37 38 (k [18] 17),
 S 1 38 34 (k [19,14,17] 17)]
def acD:List RO:=[
 n 0 39,
 c 39 40 [0],
 a 4 40 41 [1],
 l 41 42 [2],
 o (.bin .add (t 42) (i 1)) 43 [3],
 c 39 44 (k [0] 4),
 a 4 44 45 (k [5] 4),
 S 1 45 43 (k [6,4] 4)]
def KC:List RO:=[
 n 0 46,
 n 7 47,
 o (.callS 109 [(t 46),(t 47)]) 48 [0,1]]
def d81r6:List RO:=KC.map bare
def KD:List RO:=[
 n 0 49,
 n 0 50,
 c 50 51 [1],
 a 2 51 52 [2],
 l 52 53 [3],
 n 1 54,
 o (.lookup [(.int .i64)] false (.v (.int .i64 0)) false (t 53) (t 54)) 55 [4,5],
 o (.callS 110 [(t 49),(t 55)]) 56 [0,6]]
def d81r7:List RO:=KD.map bare
def acE:List RO:=[
 o (.bQ (.cw (.v (.bool true)))) 6 []]
def d81:DC:=(j (y acz)
 (j (y acA)
 (j (j (y acB)
 (.cond (.tmp 19) (j (y d81r3)
 .ret)
 .skip))
 (j (Y acC)
 (j (y acD)
 (j (y d81r6)
 (j (y d81r7)
 (j (y acE)
 .ret))))))))
def Tg:List bO:=[.slot 6]
theorem c81 [Laid]:aQ Tryz.prog 81 57 d81 Tg:=⟨Tryz.f81,by kernel_rfl,by kernel_rfl,by kernel_rfl,by kernel_rfl,by kernel_rfl⟩
def HK:List RO:=[
 o (.box (t 2)) 5 []]
def yJ:List RO:=[
 n 0 6,
 c 6 7 [0],
 a 13 7 8 [1],
 l 8 9 [2],
 n 1 10,
 x 1 9 10 11 [3,4],
 l 11 12 [5],
 m 12 13 [6],
 u 0 5 14 13 false [7],
 v 14 15 13 false [8,7],
 g (.bin .geq (t 15) (i 1099511627776)) 16 13 false [9,7],
 p 13 16 17 [7,10],
 m 17 18 [11,7],
 g (.load 2 true (t 5)) 19 18 false [12],
 w 0 20 18 false [12],
 g (.nilCheck (t 20)) 21 18 false [14,12],
 u 12 21 22 18 false [15,12],
 v 22 23 18 false [16,12],
 w 1 24 18 false [12],
 g (.idxAddr 2 (t 23) (t 24)) 25 18 false [17,18,12],
 g (.load 2 true (t 25)) 26 18 false [19,12],
 g (.call 56 [(t 19),(t 26)]) 27 18 false [13,20,12,12],
 g (.un .not (t 27)) 28 18 false [21,12],
 p 18 28 29 [12,22]]
def HL:List RO:=[
 n 0 30,
 c 30 31 [0],
 a 12 31 32 [1],
 l 32 33 [2],
 n 1 34,
 L 2 5 35 [],
 x 2 33 34 36 (k [3,4] 5),
 S 2 36 35 (k [6,5] 5)]
def HM:List RO:=[
 n 0 37,
 c 37 38 [0],
 a 14 38 39 [1],
 l 39 40 [2],
 n 1 41,
 x 1 40 41 42 [3,4],
 l 42 43 [5],
 o (.bin .geq (t 43) (i 0)) 44 [6]]
def M7:List RO:=[
 n 0 45,
 c 45 46 [0],
 a 15 46 47 [1],
 l 47 48 [2],
 n 0 49,
 c 49 50 [4],
 a 14 50 51 [5],
 l 51 52 [6],
 n 1 53,
 x 1 52 53 54 [7,8],
 l 54 55 [9],
 n 1 56,
 o (.call 81 [(t 48),(t 55),(t 56)]) 57 [3,10,11]]
def Th:List RO:=[
 n 0 45,
 c 45 46 [0],
 a 15 46 47 [1],
 l 47 48 [2],
 n 0 49,
 c 49 50 [4],
 a 14 50 51 [5],
 l 51 52 [6],
 n 1 53,
 x 1 52 53 54 [7,8],
 l 54 55 [9],
 n 1 56,
 o (.callS 81 [(t 48),(t 55),(t 56)]) 57 [3,10,11]]
def M8:List RO:=[
 n 0 58,
 c 58 59 [0],
 a 14 59 60 [1],
 l 60 61 [2],
 n 1 62,
 n 0 63,
 c 63 64 [5],
 a 15 64 65 [6],
 l 65 66 [7],
 n 1 67,
 o (.call 82 [(t 66),(t 67)]) 68 [8,9],
 x 1 61 62 69 (k [3,4] 10),
 S 1 69 68 (k [11,10,10] 10)]
def Ti:List RO:=[
 n 0 58,
 c 58 59 [0],
 a 14 59 60 [1],
 l 60 61 [2],
 n 1 62,
 n 0 63,
 c 63 64 [5],
 a 15 64 65 [6],
 l 65 66 [7],
 n 1 67,
 o (.callS 82 [(t 66),(t 67)]) 68 [8,9],
 x 1 61 62 69 (k [3,4] 10),
 S 1 69 68 (k [11,10,10] 10)]
def d60:DC:=(j (y HK)
 (j (j (Y yJ)
 (.cond (.tmp 29) .ret
 .skip))
 (j (Y HL)
 (j (y HM)
 (.cond (.tmp 44) (Y M7)
 (Y M8))))))
def ua:List bO:=[]
theorem c60 [Laid]:aQ Tryz.prog 60 70 d60 ua:=⟨Tryz.f60,by kernel_rfl,by kernel_rfl,by kernel_rfl,by kernel_rfl,by kernel_rfl⟩
def Tj:List RO:=[
 o (.bQ (i 0)) 4 []]
def Tk:List RO:=[
 n 0 8,
 o (.bQ (i 0)) 5 [],
 m 8 6 [0,1,0,1]]
def Tl:List RO:=[
 n 5 9,
 n 6 10,
 b .lss 9 10 11 [0,1]]
def Tm:List RO:=[
 n 5 12,
 n 6 13,
 b .add 12 13 14 [0,1],
 o (.conv .u64 (t 14)) 15 [2],
 o (.bin .shr (t 15) (.cw (.v (.int .u64 1)))) 16 [3],
 o (.conv .i64 (t 16)) 17 [4],
 m 17 7 (k [5] 5)]
def Tn:List RO:=[
 n 1 18,
 n 7 19,
 o (.callv (t 18) [(t 19)]) 20 [0,1],
 o (.un .not (t 20)) 21 [2]]
def To:List RO:=[
 n 7 22,
 o (.bin .add (t 22) (i 1)) 23 [0],
 m 23 5 [1,0,1]]
def Tp:List RO:=[
 n 7 24,
 m 24 6 [0,0]]
def Tq:List RO:=[
 n 5 25,
 m 25 4 [0,0]]
def d107:DC:=(j (y Tj)
 (j (y Tk)
 (j (.block 0 (.loop (j (j (y Tl)
 (.cond (.tmp 11) .skip
 (.exit 0)))
 (.block 1 (j (y Tm)
 (j (y Tn)
 (.cond (.tmp 21) (y To)
 (y Tp))))))))
 (j (y Tq)
 .ret))))
def M9:List bO:=[.slot 4]
theorem c107 [Laid]:aQ Tryz.prog 107 26 d107 M9:=⟨Tryz.f107,by kernel_rfl,by kernel_rfl,by kernel_rfl,by kernel_rfl,by kernel_rfl⟩
def Tr:List RO:=[
 o (.bQ (.cw (.v (.bool false)))) 3 []]
def Ts:List RO:=[
 l 1 5 [],
 c 5 6 [0],
 a 4 6 7 [1],
 a 1 7 8 [2],
 l 8 9 [3],
 n 0 10,
 x 5 9 10 11 [4,5],
 L 5 11 12 [6],
 o (.alloc [(.v (.int .i64 0)),(.v (.int .i64 0)),(.v (.int .i64 0)),(.v (.int .i64 0)),.aH]) 4 [],
 S 5 4 12 (k [8,7] 8)]
def Bd:List RO:=[
 a 0 4 13 [],
 l 13 14 [0],
 l 1 15 [],
 c 15 16 [2],
 a 10 16 17 [3],
 l 17 18 [4],
 b .gtr 14 18 19 [1,5],
 m 19 20 [6],
 u 0 4 21 20 false [7],
 v 21 22 20 false [8,7],
 v 1 23 20 false [7],
 g (.nilCheck (t 23)) 24 20 false [10,7],
 u 10 24 25 20 false [11,7],
 v 25 26 20 false [12,7],
 g (.bin .eql (t 22) (t 26)) 27 20 false [9,13,7],
 w 27 28 20 false [14,7,7],
 u 1 4 29 28 true [15],
 v 29 30 28 true [16,15],
 v 1 31 28 true [15],
 g (.nilCheck (t 31)) 32 28 true [18,15],
 u 11 32 33 28 true [19,15],
 v 33 34 28 true [20,15],
 g (.bin .geq (t 30) (t 34)) 35 28 true [17,21,15],
 g (.pick (t 28) (t 35) (.cw (.v (.bool false)))) 36 20 false [15,22,7],
 p 20 36 37 [7,23],
 m 37 3 (k [24,15] 24)]
def d108:DC:=(j (y Tr)
 (j (y Ts)
 (j (Y Bd)
 .ret)))
def Na:List bO:=[.slot 3]
theorem c108 [Laid]:aQ Tryz.prog 108 38 d108 Na:=⟨Tryz.f108,by kernel_rfl,by kernel_rfl,by kernel_rfl,by kernel_rfl,by kernel_rfl⟩
def acF:List RO:=[
 o (.box (t 0)) 1 [],
 o (.bQ (i 0)) 2 [],
 o (.bQ (i 0)) 3 [1]]
def KE:List RO:=[
 l 1 6 [],
 c 6 7 [0],
 a 4 7 8 [1],
 a 1 8 9 [2],
 l 9 10 [3],
 o (.len (t 10)) 11 [4],
 o (.mkFn (.func 108) [(t 1)]) 12 [],
 o (.callS 107 [(t 11),(t 12)]) 13 [5,6],
 m 13 4 (k [7,7] 7)]
def d80r1:List RO:=KE.map bare
def acG:List RO:=[
 n 4 14,
 m 14 5 [0,0]]
def HN:List RO:=[
 n 5 15,
 l 1 16 [],
 c 16 17 [1],
 a 4 17 18 [2],
 a 1 18 19 [3],
 l 19 20 [4],
 o (.len (t 20)) 21 [5],
 b .lss 15 21 22 [0,6],
 m 22 23 [7],
 v 1 24 23 true [8],
 g (.nilCheck (t 24)) 25 23 true [9,8],
 u 4 25 26 23 true [10,8],
 u 1 26 27 23 true [11,8],
 v 27 28 23 true [12,8],
 w 5 29 23 true [8],
 g (.idxAddr 5 (t 28) (t 29)) 30 23 true [13,14,8],
 u 0 30 31 23 true [15,8],
 v 31 32 23 true [16,8],
 v 1 33 23 true [8],
 g (.nilCheck (t 33)) 34 23 true [18,8],
 u 10 34 35 23 true [19,8],
 v 35 36 23 true [20,8],
 g (.bin .eql (t 32) (t 36)) 37 23 true [17,21,8],
 q 23 37 38 [8,22],
 m 38 39 [23,8],
 v 1 40 39 true [24],
 g (.nilCheck (t 40)) 41 39 true [25,24],
 u 4 41 42 39 true [26,24],
 u 1 42 43 39 true [27,24],
 v 43 44 39 true [28,24],
 w 5 45 39 true [24],
 g (.idxAddr 5 (t 44) (t 45)) 46 39 true [29,30,24],
 u 1 46 47 39 true [31,24],
 v 47 48 39 true [32,24],
 v 1 49 39 true [24],
 g (.nilCheck (t 49)) 50 39 true [34,24],
 u 11 50 51 39 true [35,24],
 v 51 52 39 true [36,24],
 g (.bin .eql (t 48) (t 52)) 53 39 true [33,37,24],
 q 39 53 54 [24,38]]
def acH:List RO:=[
 n 5 55,
 o (.bin .add (t 55) (i 1)) 56 [0],
 m 56 5 [1,0,1]]
def acI:List RO:=[
 n 4 57,
 n 5 58,
 m 57 2 [0,0],
 m 58 3 [1,2,0,1,2]]
def d80:DC:=(j (y acF)
 (j (y d80r1)
 (j (y acG)
 (j (.block 0 (.loop (j (j (Y HN)
 (.cond (.tmp 54) .skip
 (.exit 0)))
 (.block 1 (y acH)))))
 (j (y acI)
 .ret)))))
def Tt:List bO:=[.slot 2,.slot 3]
theorem c80 [Laid]:aQ Tryz.prog 80 59 d80 Tt:=⟨Tryz.f80,by kernel_rfl,by kernel_rfl,by kernel_rfl,by kernel_rfl,by kernel_rfl⟩
def acJ:List RO:=[
 o (.box (t 1)) 4 []]
def acK:List RO:=[
 a 0 4 10 [],
 l 10 11 [0]]
def acL:List RO:=[
 o (.bin .eql (t 11) (i 1)) 13 [],
 m 13 12 [0]]
def acM:List RO:=[
 n 0 14,
 c 14 15 [0],
 a 10 15 16 [1],
 l 16 17 [2],
 n 0 18,
 c 18 19 [4],
 a 11 19 20 [5],
 l 20 21 [6],
 b .eql 17 21 22 [3,7]]
def acN:List RO:=[
 n 2 23,
 n 0 24,
 c 24 25 [1],
 a 10 25 26 [2],
 l 26 27 [3],
 a 4 4 28 [],
 l 28 29 [5],
 o (.callv (t 23) [(t 27),(t 29),(.cw .aH)]) 30 [0,4,6]]
def acO:List RO:=[
 o (.bin .eql (t 11) (i 2)) 32 [],
 m 32 31 [0]]
def KF:List RO:=[
 n 0 34,
 o (.callS 80 [(t 34)]) 35 [0],
 m 35 33 [1],
 e 0 33 36 [2],
 e 1 33 37 [2],
 m 36 6 [3,1,0,1,2,3],
 m 37 7 (k [4,5] 5)]
def d57r6:List RO:=KF.map bare
def acP:List RO:=[
 n 6 38,
 m 38 8 [0,0]]
def acQ:List RO:=[
 n 8 39,
 n 7 40,
 b .lss 39 40 41 [0,1]]
def Tu:List RO:=[
 n 0 44,
 c 44 45 [0],
 a 4 45 46 [1],
 a 1 46 47 [2],
 l 47 48 [3],
 n 8 49,
 x 5 48 49 50 [4,5],
 a 2 50 51 [6],
 l 51 52 [7],
 a 2 4 53 [],
 l 53 54 [9],
 b .eql 52 54 55 [8,10],
 m 55 56 [11],
 w 2 57 56 true [12],
 w 8 58 56 true [12],
 u 4 4 59 56 true [12],
 v 59 60 56 true [15,12],
 w 0 61 56 true [12],
 g (.nilCheck (t 61)) 62 56 true [17,12],
 u 4 62 63 56 true [18,12],
 u 1 63 64 56 true [19,12],
 v 64 65 56 true [20,12],
 w 8 66 56 true [12],
 g (.idxAddr 5 (t 65) (t 66)) 67 56 true [21,22,12],
 u 3 67 68 56 true [23,12],
 v 68 69 56 true [24,12],
 g (.bin .add (t 60) (t 69)) 70 56 true [16,25,12],
 g (.callv (t 57) [(t 58),(t 70),(.cw .aH)]) 71 56 true [13,14,26,12,12],
 g (.un .not (t 71)) 72 56 true [27,12],
 q 56 72 73 [12,28]]
def KG:List RO:=[
 n 8 42,
 o (.bin .add (t 42) (i 1)) 43 [0],
 m 43 8 [1,0,1]]
def Tv:List RO:=[
 o (.bin .eql (t 11) (i 3)) 75 [],
 m 75 74 [0]]
def Tw:List RO:=[
 n 2 76,
 n 0 77,
 c 77 78 [1],
 a 10 78 79 [2],
 l 79 80 [3],
 a 4 4 81 [],
 l 81 82 [5],
 a 2 4 83 [],
 l 83 84 [7],
 n 0 85,
 c 85 86 [9],
 a 10 86 87 [10],
 l 87 88 [11],
 n 0 89,
 c 89 90 [13],
 a 11 90 91 [14],
 l 91 92 [15],
 o (.build [(.v (.int .i64 0)),(.v (.int .i64 0)),(.v (.int .i64 0))] [(0,1,(t 84)),(1,1,(t 88)),(2,1,(t 92))]) 93 [8,12,16],
 o (.bslice 1 3 [(.v (.int .i64 0)),(.v (.int .i64 0)),(.v (.int .i64 0))] [(0,3,(t 93))]) 94 [17],
 o (.callv (t 76) [(t 80),(t 82),(t 94)]) 95 [0,4,6,18]]
def Tx:List RO:=[
 o (.bin .eql (t 11) (i 4)) 97 [],
 m 97 96 [0]]
def Tz:List RO:=[
 n 0 98,
 c 98 99 [0],
 a 10 99 100 [1],
 l 100 101 [2],
 m 101 9 [3,0,1,2,3]]
def TA:List RO:=[
 n 9 102,
 n 0 103,
 c 103 104 [1],
 a 11 104 105 [2],
 l 105 106 [3],
 b .leq 102 106 107 [0,4]]
def TB:List RO:=[
 n 2 110,
 n 9 111,
 a 4 4 112 [],
 l 112 113 [2],
 a 2 4 114 [],
 l 114 115 [4],
 n 0 116,
 c 116 117 [6],
 a 10 117 118 [7],
 l 118 119 [8],
 n 9 120,
 o (.build [(.v (.int .i64 0)),(.v (.int .i64 0)),(.v (.int .i64 0))] [(0,1,(t 115)),(1,1,(t 119)),(2,1,(t 120))]) 121 [5,9,10],
 a 3 4 122 [],
 l 122 123 [12],
 n 9 124,
 n 0 125,
 c 125 126 [15],
 a 11 126 127 [16],
 l 127 128 [17],
 o (.build [(.v (.int .i64 0)),(.v (.int .i64 0)),(.v (.int .i64 0))] [(0,1,(t 123)),(1,1,(t 124)),(2,1,(t 128))]) 129 [13,14,18],
 o (.bslice 2 3 [(.v (.int .i64 0)),(.v (.int .i64 0)),(.v (.int .i64 0)),(.v (.int .i64 0)),(.v (.int .i64 0)),(.v (.int .i64 0))] [(0,3,(t 121)),(3,3,(t 129))]) 130 [11,19],
 o (.callv (t 110) [(t 111),(t 113),(t 130)]) 131 [0,1,3,20],
 o (.un .not (t 131)) 132 [21]]
def TC:List RO:=[
 n 9 108,
 o (.bin .add (t 108) (i 1)) 109 [0],
 m 109 9 [1,0,1]]
def d57:DC:=(j (y acJ)
 (j (y acK)
 (.block 0 (j (y acL)
 (.cond (.tmp 12) (j (Y acM)
 (.cond (.tmp 22) (Y acN)
 .skip))
 (j (y acO)
 (.cond (.tmp 31) (j (y d57r6)
 (j (y acP)
 (.block 1 (.loop (j (j (y acQ)
 (.cond (.tmp 41) .skip
 (.exit 1)))
 (j (.block 2 (j (Y Tu)
 (.cond (.tmp 73) .ret
 .skip)))
 (y KG)))))))
 (j (y Tv)
 (.cond (.tmp 74) (Y Tw)
 (j (y Tx)
 (.cond (.tmp 96) (j (y Tz)
 (.block 3 (.loop (j (j (y TA)
 (.cond (.tmp 107) .skip
 (.exit 3)))
 (j (.block 4 (j (Y TB)
 (.cond (.tmp 132) .ret
 .skip)))
 (y TC))))))
 .skip)))))))))))
def pG:List bO:=[]
theorem c57 [Laid]:aQ Tryz.prog 57 133 d57 pG:=⟨Tryz.f57,by kernel_rfl,by kernel_rfl,by kernel_rfl,by kernel_rfl,by kernel_rfl⟩
def acR:List RO:=[
 o (.box (t 1)) 4 []]
def acS:List RO:=[
 a 0 4 8 [],
 l 8 9 [0],
 o (.bin .neq (t 9) (i 4)) 10 [1]]
def KH:List RO:=[
 n 0 11,
 L 6 4 12 [],
 n 2 13,
 o (.callS 57 [(t 11),(t 12),(t 13)]) 14 [0,1,2]]
def d87r2:List RO:=KH.map bare
def acT:List RO:=[
 n 0 15,
 c 15 16 [0],
 a 10 16 17 [1],
 l 17 18 [2],
 n 0 19,
 c 19 20 [4],
 a 11 20 21 [5],
 l 21 22 [6],
 o (.bslice 2 1 [(.v (.int .i64 0)),(.v (.int .i64 0))] [(0,1,(t 18)),(1,1,(t 22))]) 23 [3,7],
 o (.len (t 23)) 24 [8],
 o (.bQ (i 0)) 25 []]
def acU:List RO:=[
 b .lss 25 24 26 []]
def acV:List RO:=[
 x 1 23 25 27 [],
 l 27 28 [0],
 m 28 7 [1,0,1]]
def acW:List RO:=[
 n 2 29,
 n 7 30,
 a 4 4 31 [],
 l 31 32 [2],
 a 2 4 33 [],
 l 33 34 [4],
 n 0 35,
 c 35 36 [6],
 a 10 36 37 [7],
 l 37 38 [8],
 n 7 39,
 o (.build [(.v (.int .i64 0)),(.v (.int .i64 0)),(.v (.int .i64 0))] [(0,1,(t 34)),(1,1,(t 38)),(2,1,(t 39))]) 40 [5,9,10],
 a 3 4 41 [],
 l 41 42 [12],
 n 7 43,
 n 0 44,
 c 44 45 [15],
 a 11 45 46 [16],
 l 46 47 [17],
 o (.build [(.v (.int .i64 0)),(.v (.int .i64 0)),(.v (.int .i64 0))] [(0,1,(t 42)),(1,1,(t 43)),(2,1,(t 47))]) 48 [13,14,18],
 o (.bslice 2 3 [(.v (.int .i64 0)),(.v (.int .i64 0)),(.v (.int .i64 0)),(.v (.int .i64 0)),(.v (.int .i64 0)),(.v (.int .i64 0))] [(0,3,(t 40)),(3,3,(t 48))]) 49 [11,19],
 o (.callv (t 29) [(t 30),(t 32),(t 49)]) 50 [0,1,3,20]]
def acX:List RO:=[
 o (.bin .add (t 25) (i 1)) 51 [],
 m 51 25 [0]]
def d87:DC:=(j (y acR)
 (j (j (y acS)
 (.cond (.tmp 10) (j (y d87r2)
 .ret)
 .skip))
 (j (Y acT)
 (.block 0 (.loop (j (y acU)
 (j (.cond (.tmp 26) .skip
 (.exit 0))
 (j (.block 1 (j (y acV)
 (Y acW)))
 (y acX)))))))))
def KI:List bO:=[]
theorem c87 [Laid]:aQ Tryz.prog 87 52 d87 KI:=⟨Tryz.f87,by kernel_rfl,by kernel_rfl,by kernel_rfl,by kernel_rfl,by kernel_rfl⟩
def HO:List RO:=[
 o (.bQ (.cw (.v (.bool false)))) 8 []]
def tq:List RO:=[
 l 3 9 [],
 n 2 10,
 o (.call 59 [(t 9),(t 10)]) 11 [0,1],
 o (.un .not (t 11)) 12 [2]]
def TD:List RO:=[
 l 3 9 [],
 n 2 10,
 o (.callS 59 [(t 9),(t 10)]) 11 [0,1],
 o (.un .not (t 11)) 12 [2]]
def Nb:List RO:=[
 l 3 13 [],
 a 1 4 14 [],
 l 14 15 [1],
 l 3 16 [],
 n 1 17,
 n 2 18,
 o (.call 61 [(t 16),(t 17),(t 18)]) 19 [3,4,5],
 o (.call 60 [(t 13),(t 15),(t 19)]) 20 [0,2,6,6]]
def TE:List RO:=[
 l 3 13 [],
 a 1 4 14 [],
 l 14 15 [1],
 l 3 16 [],
 n 1 17,
 n 2 18,
 o (.callS 61 [(t 16),(t 17),(t 18)]) 19 [3,4,5],
 o (.callS 60 [(t 13),(t 15),(t 19)]) 20 [0,2,6,6]]
def Di:List RO:=[
 o (.bQ (.cw (.v (.bool true)))) 8 []]
def d58:DC:=(j (y HO)
 (j (j (y tq)
 (.cond (.tmp 12) (Y Nb)
 .skip))
 (j (y Di)
 .ret)))
def rJ:List bO:=[.slot 8]
theorem c58 [Laid]:aQ Tryz.prog 58 21 d58 rJ:=⟨Tryz.f58,by kernel_rfl,by kernel_rfl,by kernel_rfl,by kernel_rfl,by kernel_rfl⟩
def acY:List RO:=[
 o (.bQ (.cw (.v (.bool false)))) 8 []]
def Be:List RO:=[
 l 3 9 [],
 n 2 10,
 o (.callS 59 [(t 9),(t 10)]) 11 [0,1],
 m 11 12 [2,2],
 v 3 13 12 true [3],
 w 2 14 12 true [3],
 g (.callS 89 [(t 13),(t 14)]) 15 12 true [4,5,3,3],
 q 12 15 16 [3,6]]
def d88r1:List RO:=Be.map bare
def KJ:List RO:=[
 l 3 17 [],
 a 1 4 18 [],
 l 18 19 [1],
 l 3 20 [],
 n 1 21,
 n 2 22,
 o (.callS 61 [(t 20),(t 21),(t 22)]) 23 [3,4,5],
 o (.callS 60 [(t 17),(t 19),(t 23)]) 24 [0,2,6,6]]
def d88r2:List RO:=KJ.map bare
def Nc:List RO:=[
 o (.bQ (.cw (.v (.bool true)))) 8 []]
def d88:DC:=(j (y acY)
 (j (j (y d88r1)
 (.cond (.tmp 16) (Y d88r2)
 .skip))
 (j (y Nc)
 .ret)))
def E3:List bO:=[.slot 8]
theorem c88 [Laid]:aQ Tryz.prog 88 25 d88 E3:=⟨Tryz.f88,by kernel_rfl,by kernel_rfl,by kernel_rfl,by kernel_rfl,by kernel_rfl⟩
def acZ:List RO:=[
 o (.box (t 0)) 1 []]
def Bf:List RO:=[
 l 1 7 [],
 c 7 8 [0],
 a 15 8 9 [1],
 l 9 10 [2],
 o (.callS 85 [(t 10)]) 11 [3],
 m 11 6 [4],
 e 0 6 12 [5],
 e 1 6 13 [5],
 m 12 2 (k [6,4] 6),
 m 13 3 (k [7,8] 8)]
def d62r1:List RO:=Bf.map bare
def TF:List RO:=[
 n 3 14,
 o (.un .not (t 14)) 15 [0]]
def ac0:List RO:=[
 l 1 16 [],
 c 16 17 [0],
 a 13 17 18 [1],
 l 18 19 [2],
 n 2 20,
 x 1 19 20 21 (k [3,4] 4),
 s (.store 1 (t 21) (.cw (.v (.bool true)))) (k [5] 4)]
def ac1:List RO:=[
 l 1 22 [],
 c 22 23 [0],
 a 0 23 24 [1],
 a 3 24 25 [2],
 l 25 26 [3],
 o (.len (t 26)) 27 [4],
 o (.bQ (i 0)) 28 []]
def ac2:List RO:=[
 b .lss 28 27 29 []]
def ac3:List RO:=[
 x 6 26 28 30 [],
 L 6 30 31 [0],
 o (.alloc [(.v (.int .i64 0)),(.v (.int .i64 0)),(.v (.int .i64 0)),(.v (.int .i64 0)),(.v (.int .i64 0)),(.v (.int .i64 0))]) 5 [],
 S 6 5 31 [2,1,0,1,2]]
def ac4:List RO:=[
 L 6 5 32 [],
 n 2 33,
 o (.call 86 [(t 32),(t 33)]) 34 [0,1],
 o (.un .not (t 34)) 35 [2]]
def KK:List RO:=[
 l 1 36 [],
 L 6 5 37 [],
 o (.mkFn (.func 88) [(t 1),(t 5)]) 38 [],
 o (.callS 87 [(t 36),(t 37),(t 38)]) 39 [0,1,2]]
def d62r8:List RO:=KK.map bare
def TG:List RO:=[
 o (.bin .add (t 28) (i 1)) 40 [],
 m 40 28 [0]]
def d62:DC:=(j (y acZ)
 (.block 0 (.loop (.block 1 (j (y d62r1)
 (j (j (y TF)
 (.cond (.tmp 15) .ret
 .skip))
 (j (y ac0)
 (j (y ac1)
 (.block 2 (.loop (j (y ac2)
 (j (.cond (.tmp 29) .skip
 (.exit 2))
 (j (.block 3 (j (y ac3)
 (j (j (y ac4)
 (.cond (.tmp 35) (.exit 3)
 .skip))
 (y d62r8))))
 (y TG))))))))))))))
def TH:List bO:=[]
theorem c62 [Laid]:aQ Tryz.prog 62 41 d62 TH:=⟨Tryz.f62,by kernel_rfl,by kernel_rfl,by kernel_rfl,by kernel_rfl,by kernel_rfl⟩
def ac5:List RO:=[
 o (.bQ (.cw (.v (.bool false)))) 10 []]
def KL:List RO:=[
 l 3 11 [],
 n 1 12,
 n 2 13,
 o (.callS 61 [(t 11),(t 12),(t 13)]) 14 [0,1,2],
 L 2 4 15 [],
 o (.eqT true true [(.int .i64),(.int .i64)] (t 14) (t 15)) 16 [3,4]]
def d90r1:List RO:=KL.map bare
def ac6:List RO:=[
 o (.bQ (.cw (.v (.bool true)))) 10 []]
def ac7:List RO:=[
 L 2 4 17 [],
 l 5 18 [],
 n 0 19,
 o (.build [(.v (.int .i64 0)),(.v (.int .i64 0)),(.v (.int .i64 0)),(.v (.int .i64 0))] [(0,2,(t 17)),(2,1,(t 18)),(3,1,(t 19))]) 20 [0,1,2],
 S 4 6 20 [3,0,1,2,3]]
def ac8:List RO:=[
 o (.bQ (.cw (.v (.bool false)))) 10 []]
def d90:DC:=(j (y ac5)
 (j (j (Y d90r1)
 (.cond (.tmp 16) (j (y ac6)
 .ret)
 .skip))
 (j (y ac7)
 (j (y ac8)
 .ret))))
def KM:List bO:=[.slot 10]
theorem c90 [Laid]:aQ Tryz.prog 90 21 d90 KM:=⟨Tryz.f90,by kernel_rfl,by kernel_rfl,by kernel_rfl,by kernel_rfl,by kernel_rfl⟩
def ac9:List RO:=[
 o (.box (t 0)) 2 [],
 o (.alloc [(.v (.int .i64 0)),(.v (.int .i64 0)),(.v (.int .i64 0)),(.v (.int .i64 0))]) 4 []]
def ada:List RO:=[
 l 2 9 [],
 c 9 10 [0],
 a 12 10 11 [1],
 l 11 12 [2],
 n 1 13,
 x 2 12 13 14 [3,4],
 L 2 14 15 [5],
 o (.alloc [(.v (.int .i64 0)),(.v (.int .i64 0))]) 5 [],
 S 2 5 15 (k [7,6] 7)]
def adb:List RO:=[
 o (.load 4 true (.cw (.gD [(.int .i64 1099511627776),(.int .i64 0),(.int .i64 (-1)),(.int .i64 0)] 0))) 16 [],
 o (.alloc [(.v (.int .i64 0)),(.v (.int .i64 0)),(.v (.int .i64 0)),(.v (.int .i64 0))]) 6 [],
 S 4 6 16 [1,0,0,1]]
def ade:List RO:=[
 l 2 17 [],
 c 17 18 [0],
 a 0 18 19 [1],
 a 3 19 20 [2],
 l 20 21 [3],
 o (.len (t 21)) 22 [4],
 o (.bQ (i 0)) 23 []]
def adf:List RO:=[
 b .lss 23 22 24 []]
def adg:List RO:=[
 n 23 25,
 x 6 21 23 26 [],
 L 6 26 27 [1],
 o (.alloc [(.v (.int .i64 0))]) 7 [],
 o (.alloc [(.v (.int .i64 0)),(.v (.int .i64 0)),(.v (.int .i64 0)),(.v (.int .i64 0)),(.v (.int .i64 0)),(.v (.int .i64 0))]) 8 [],
 S 1 7 25 (k [3,0] 4),
 S 6 8 27 (k [4,2,5] 5)]
def HP:List RO:=[
 a 1 8 28 [],
 l 28 29 [0],
 n 1 30,
 b .neq 29 30 31 [1,2],
 m 31 32 [3],
 u 0 5 33 32 false [4],
 v 33 34 32 false [5,4],
 g (.bin .geq (t 34) (i 1099511627776)) 35 32 false [6,4],
 p 32 35 36 [4,7],
 m 36 37 [8,4],
 u 2 6 38 37 false [9],
 v 38 39 37 false [10,9],
 g (.bin .geq (t 39) (i 0)) 40 37 false [11,9],
 p 37 40 41 [9,12]]
def KO:List RO:=[
 l 2 42 [],
 L 6 8 43 [],
 o (.mkFn (.func 90) [(t 2),(t 5),(t 7),(t 6)]) 44 [],
 o (.callS 57 [(t 42),(t 43),(t 44)]) 45 [0,1,2]]
def d63r7:List RO:=KO.map bare
def TI:List RO:=[
 o (.bin .add (t 23) (i 1)) 46 [],
 m 46 23 [0]]
def adh:List RO:=[
 L 4 6 47 [],
 S 4 4 47 [0,0]]
def d63:DC:=(j (y ac9)
 (j (y ada)
 (j (y adb)
 (j (j (y ade)
 (.block 0 (.loop (j (y adf)
 (j (.cond (.tmp 24) .skip
 (.exit 0))
 (j (.block 1 (j (y adg)
 (j (j (y HP)
 (.cond (.tmp 41) (.exit 1)
 .skip))
 (y d63r7))))
 (y TI)))))))
 (j (y adh)
 .ret)))))
def TJ:List bO:=[.cell 4 4 true]
theorem c63:aQ Tryz.prog 63 48 d63 TJ:=⟨Tryz.f63,by kernel_rfl,by kernel_rfl,by kernel_rfl,by kernel_rfl,by kernel_rfl⟩
def adi:List RO:=[
 o (.bQ (.cw (.v (.bool false)))) 5 []]
def adj:List RO:=[
 l 2 6 [],
 c 6 7 [0],
 a 12 7 8 [1],
 l 8 9 [2],
 n 0 10,
 x 2 9 10 11 [3,4],
 L 2 11 12 [5],
 l 2 13 [],
 c 13 14 [7],
 a 12 14 15 [8],
 l 15 16 [9],
 n 1 17,
 x 2 16 17 18 [10,11],
 L 2 18 19 [12],
 o (.call 56 [(t 12),(t 19)]) 20 [6,13],
 m 20 5 (k [14,14] 14)]
def d55:DC:=(j (y adi)
 (j (Y adj)
 .ret))
def TK:List bO:=[.slot 5]
theorem c55 [Laid]:aQ Tryz.prog 55 21 d55 TK:=⟨Tryz.f55,by kernel_rfl,by kernel_rfl,by kernel_rfl,by kernel_rfl,by kernel_rfl⟩
def HQ:List RO:=[
 o (.box (t 0)) 5 [],
 o (.box (t 1)) 6 [],
 o (.box (t 2)) 7 [],
 o (.bQ (.cw .aH)) 10 []]
def HR:List RO:=[
 L 4 5 17 [],
 L 3 6 18 [],
 L 3 7 19 [],
 n 3 20,
 n 4 21,
 a 1 5 22 [],
 l 22 23 [5],
 o (.mkSlice 55 2 16 [(.int .i64 0),(.int .i64 0)] (t 23)) 24 [6,6],
 a 1 5 25 [],
 l 25 26 [8],
 o (.mkSlice 4 1 1 [(.bool false)] (t 26)) 27 [9,9],
 a 1 5 28 [],
 l 28 29 [11],
 o (.mkSlice 3 1 8 [(.int .i64 0)] (t 29)) 30 [12,12],
 o (.build [(.v (.int .i64 0)),(.v (.int .i64 0)),(.v (.int .i64 0)),.aH,(.v (.int .i64 0)),.aH,.aH,(.v (.int .i64 0)),(.v (.int .i64 0)),.aH,(.v (.int .i64 0)),(.v (.int .i64 0)),.aH,.aH,.aH,(.v (.raw (Go.Value.pointer Option.none)))] [(0,4,(t 17)),(4,3,(t 18)),(7,3,(t 19)),(10,1,(t 20)),(11,1,(t 21)),(12,1,(t 24)),(13,1,(t 27)),(14,1,(t 30))]) 31 [0,1,2,3,4,7,10,13],
 o (.box (t 31)) 32 [14],
 o (.alloc [(.v (.raw (Go.Value.pointer Option.none)))]) 11 [],
 S 1 11 32 (k [16,15] 16)]
def HS:List RO:=[
 l 11 33 [],
 o (.mkFn (.func 55) [(t 11)]) 34 [],
 o (.call 54 [(t 34)]) 35 [1],
 c 33 36 [0,0,1,2],
 a 15 36 37 [3,0,1,2],
 S 1 37 35 [4,2,2,0,1,2]]
def HT:List RO:=[
 l 11 38 [],
 c 38 39 [0],
 a 12 39 40 [1],
 l 40 41 [2],
 o (.len (t 41)) 42 [3],
 o (.bQ (i 0)) 43 []]
def HU:List RO:=[
 b .lss 43 42 44 []]
def HV:List RO:=[
 n 43 45,
 m 45 12 [0,0]]
def HW:List RO:=[
 l 11 46 [],
 c 46 47 [0],
 a 12 47 48 [1],
 l 48 49 [2],
 n 12 50,
 o (.addOff 0 (.cw (.gD [(.int .i64 1099511627776),(.int .i64 0),(.int .i64 (-1)),(.int .i64 0)] 0))) 51 [],
 L 2 51 52 [5],
 x 2 49 50 53 (k [3,4] 6),
 S 2 53 52 (k [7,6] 6)]
def vF:List RO:=[
 l 11 54 [],
 c 54 55 [0],
 a 14 55 56 [1],
 l 56 57 [2],
 n 12 58,
 x 1 57 58 59 (k [3,4] 4),
 s (.store 1 (t 59) (i (-1))) (k [5] 4)]
def HX:List RO:=[
 o (.bin .add (t 43) (i 1)) 60 [],
 m 60 43 [0]]
def HY:List RO:=[
 a 3 5 61 [],
 l 61 62 [0],
 o (.len (t 62)) 63 [1],
 o (.bQ (i 0)) 64 []]
def Bg:List RO:=[
 b .lss 64 63 65 []]
def ub:List RO:=[
 x 6 62 64 66 [],
 L 6 66 67 [0],
 o (.alloc [(.v (.int .i64 0)),(.v (.int .i64 0)),(.v (.int .i64 0)),(.v (.int .i64 0)),(.v (.int .i64 0)),(.v (.int .i64 0))]) 14 [],
 S 6 14 67 [2,1,0,1,2]]
def E4:List RO:=[
 l 11 68 [],
 L 6 14 69 [],
 o (.mkFn (.func 58) [(t 11),(t 14)]) 70 [],
 o (.call 57 [(t 68),(t 69),(t 70)]) 71 [0,1,2]]
def Nd:List RO:=[
 l 11 68 [],
 L 6 14 69 [],
 o (.mkFn (.func 58) [(t 11),(t 14)]) 70 [],
 o (.callS 57 [(t 68),(t 69),(t 70)]) 71 [0,1,2]]
def Bh:List RO:=[
 o (.bin .add (t 64) (i 1)) 72 [],
 m 72 64 [0]]
def Bi:List RO:=[
 l 11 73 [],
 o (.call 62 [(t 73)]) 74 [0]]
def Nf:List RO:=[
 l 11 73 [],
 o (.callS 62 [(t 73)]) 74 [0]]
def Bj:List RO:=[
 o (.bQ (.cw .aH)) 15 []]
def Bk:List RO:=[
 a 1 5 75 [],
 l 75 76 [0],
 o (.bQ (i 0)) 77 []]
def Bl:List RO:=[
 b .lss 77 76 78 []]
def Bm:List RO:=[
 n 77 79,
 m 79 16 [0,0]]
def E5:List RO:=[
 n 15 80,
 l 11 81 [],
 n 16 82,
 o (.callS 63 [(t 81),(t 82)]) 83 [1,2],
 o (.bslice 1 4 [(.v (.int .i64 0)),(.v (.int .i64 0)),(.v (.int .i64 0)),(.v (.int .i64 0))] [(0,4,(t 83))]) 84 [3],
 o (.append 57 4 32 (t 80) (t 84)) 85 [0,4,3],
 m 85 15 (k [5,5] 5)]
def d35r19:List RO:=E5.map bare
def TL:List RO:=[
 o (.bin .add (t 77) (i 1)) 86 [],
 m 86 77 [0]]
def TM:List RO:=[
 n 15 87,
 m 87 10 [0,0]]
def d35:DC:=(j (y HQ)
 (j (Y HR)
 (j (Y HS)
 (j (j (y HT)
 (.block 0 (.loop (j (y HU)
 (j (.cond (.tmp 44) .skip
 (.exit 0))
 (j (.block 1 (j (y HV)
 (j (Y HW)
 (y vF))))
 (y HX)))))))
 (j (j (y HY)
 (.block 2 (.loop (j (y Bg)
 (j (.cond (.tmp 65) .skip
 (.exit 2))
 (j (.block 3 (j (y ub)
 (y E4)))
 (y Bh)))))))
 (j (y Bi)
 (j (y Bj)
 (j (j (y Bk)
 (.block 4 (.loop (j (y Bl)
 (j (.cond (.tmp 78) .skip
 (.exit 4))
 (j (.block 5 (j (y Bm)
 (y d35r19)))
 (y TL)))))))
 (j (y TM)
 .ret)))))))))
def Bn:List bO:=[.slot 10]
theorem c35:aQ Tryz.prog 35 88 d35 Bn:=⟨Tryz.f35,by kernel_rfl,by kernel_rfl,by kernel_rfl,by kernel_rfl,by kernel_rfl⟩
structure bD where
 (kind head a b bE origin:Int)
 deriving DecidableEq,Inhabited
structure aG where
 (aW an start:Int)
 rules:List bD
structure br where
 (cost size:Int)
 deriving DecidableEq,Inhabited
structure Cell where
 (cost size ez arg:Int)
 deriving DecidableEq,Inhabited
structure bW where
 (an aP:Int)
 cells:List Cell
abbrev Cell.val(c:Cell):br:=⟨c.cost,c.size⟩
theorem ej:aw Tryz.prog (aX []):=aw.nil
def bD.enc(r:bD):List T:=[ti r.kind,ti r.head,ti r.a,ti r.b,ti r.bE,ti r.origin]
def aR(l:List bD):List (List T):=l.map bD.enc
def aG.enc(n:aG):T:=.agg [ti n.aW,ti n.an,ti n.start,.sl (aR n.rules)]
def bI(l:List br):List (List T):=l.map λv=>[ti v.cost,ti v.size]
def Cell.enc(c:Cell):List T:=[ti c.cost,ti c.size,ti c.ez,ti c.arg]
def aM(l:List Cell):List (List T):=l.map Cell.enc
def bW.enc(c:bW):T:=.agg [ti c.an,ti c.aP,.sl (aM c.cells)]
def pH:List T->bD
 |[a,b,c,d,e,f]=>⟨cX a,cX b,cX c,cX d,cX e,cX f⟩
 |_=>default
def vG(l:List (List T)):List bD:=l.map pH
def lg(l:List (List T)):List br:=l.map fun|[a,b]=>⟨cX a,cX b⟩|_=>default
def E6:List T->Cell
 |[a,b,c,d]=>⟨cX a,cX b,cX c,cX d⟩
 |_=>default
def jZ(l:List (List T)):List Cell:=l.map E6
def nS:T->aG
 |.agg [a,b,c,.sl r]=>⟨cX a,cX b,cX c,vG r⟩
 |_=>⟨0,0,0,[]⟩
def pI:T->bW
 |.agg [a,b,.sl r]=>⟨cX a,cX b,jZ r⟩
 |_=>⟨0,0,[]⟩
@[simp] theorem HZ(r:bD):pH r.enc=r:=by simp[pH,bD.enc,cX]
@[simp] theorem Xx(l:List bD):vG (aR l)=l:=fC HZ l
@[simp] theorem adk(l:List br):lg (bI l)=l:=fC (λ_=>rfl) l
@[simp] theorem H0(r:Cell):E6 r.enc=r:=by simp[E6,Cell.enc,cX]
@[simp] theorem Xy(l:List Cell):jZ (aM l)=l:=fC H0 l
@[simp] theorem decN_enc'(a b c:Int)(l:List bD):nS (.agg [ti a,ti b,ti c,.sl (aR l)])=⟨a,b,c,l⟩:=by simp[nS,cX]
@[simp] theorem decN_enc(n:aG):nS n.enc=n:=by simp[aG.enc]
@[simp] theorem decC_enc'(a b:Int)(l:List Cell):pI (.agg [ti a,ti b,.sl (aM l)])=⟨a,b,l⟩:=by simp[pI,cX]
@[simp] theorem decC_enc(n:bW):pI n.enc=n:=by simp[bW.enc]
@[simp] theorem rulesT_len(l:List bD):(aR l).length=l.length:=by simp[aR]
@[simp] theorem valsT_len(l:List br):(bI l).length=l.length:=by simp[bI]
@[simp] theorem cellsT_len(l:List Cell):(aM l).length=l.length:=by simp[aM]
theorem fT{l:List bD}{y:Nat}(h:y<l.length):DM.rowAt (aR l) y=(l.getD y default).enc:=by simp[DM.rowAt,aR,h]
theorem dP{l:List br}{y:Nat}(h:y<l.length):DM.rowAt (bI l) y=[ti (l.getD y default).cost,ti (l.getD y default).size]:=by simp[DM.rowAt,bI,h]
theorem fU{l:List Cell}{y:Nat}(h:y<l.length):DM.rowAt (aM l) y=(l.getD y default).enc:=by simp[DM.rowAt,aM,h]
@[simp] theorem OU:bI []=[]:=rfl
@[simp] theorem cellsT_nil:aM []=[]:=rfl
theorem bw{α:Type} [Inhabited α]{l:List α}{i:Nat}(h:i<l.length):l.getD i default∈l:=by simp[List.getD,h]
def br.lt(a b:br):Prop:=a.cost<b.cost\/(a.cost=b.cost/\a.size<b.size)
instance(a b:br):Decidable (a.lt b):=by unfold br.lt;infer_instance
theorem t92(u v:br):aU Tryz.prog 92 [.agg [ti u.cost,ti u.size],.agg [ti v.cost,ti v.size]] (.bool (decide (u.lt v))):=by
 obtain⟨a,b⟩:=u;obtain⟨c,d⟩:=v;obtain⟨c1,bb⟩:∃c1:Bool,decide ((⟨a,b⟩:br).lt ⟨c,d⟩)=c1:=⟨_,rfl⟩;rw[bb];simp only[br.lt]at bb;have ay:=ej;refine c92.ok (by simp) (aK ?_);simp;refine aa.ab ay fw [2,3] ?_;simp[Zc];refine aa.le (Le.aC (o:=[]) (l:=[(2,.v (.box [ti a,ti b])),(3,.v (.box [ti c,ti d]))]) (nxt':=1200) ?_ ?_ ?_ ?_) ?_;iterate 4(·simp)
 refine aa.bY ay fw [(4,.v (.bool c1))] ?_ ?_
 ·by_cases q1:a<c
  ·have:c1=true:=by rw[<-bb];simp[q1]
   simp[GX,q1,this]
  ·by_cases q2:a=c
   ·subst q2;by_cases q3:b<d
    ·have:c1=true:=by rw[<-bb];simp[q3]
     simp[GX,q3,this]
    ·have:c1=false:=by rw[<-bb];simp[q3]
     simp[GX,q3,this]
   ·have:c1=false:=by rw[<-bb];simp[q1,q2]
    simp[GX,q1,q2,this]
 refine aa.ret ?_;simp[Rl]
def en:Int->Int->List br->br
 |c,s,[]=>⟨c,s⟩
 |c,s,v::l=>en (min (c+v.cost) 1099511627776) (min (s+v.size) 1099511627776) l
def comb(c:Int)(l:List br):br:=if(en c 1 l).cost>=1099511627776 then⟨1099511627776,0⟩else en c 1 l
theorem Bo(c s:Int)(l:List br)(v:br):en c s (l++[v])=⟨min ((en c s l).cost+v.cost) 1099511627776,min ((en c s l).size+v.size) 1099511627776⟩:=by
 induction l generalizing c s with
 |nil=>rfl
 |cons x l ih=>simp only[ZaH,en,ih]
def kO(v:br):Prop:=0<=v.cost/\v.cost<=1099511627776/\0<=v.size/\v.size<=1099511627776
theorem rK{l:List br}(h:∀v∈l,kO v):∀{c s:Int},0<=c->c<=4000000000000->0<=s->s<=1099511627776->0<=(en c s l).cost/\(en c s l).cost<=4000000000000/\0<=(en c s l).size/\(en c s l).size<=1099511627776:=by
 induction l with
 |nil=>intro c s h1 h2 h3 h4;exact⟨h1,h2,h3,h4⟩
 |cons x l ih=>
  intro c s h1 h2 h3 h4;obtain⟨g1,g2,g3,g4⟩:=h x (by simp);exact ih (λv hv=>h v (by simp[hv])) (by omega) (by omega) (by omega) (by omega)
theorem iH{c:Int}{l:List br}(h:∀v∈l,kO v)(h1:0<=c)(h2:c<=4000000000000):kO (comb c l):=by
 have:=rK (c:=c) (s:=1) h h1 h2 (by omega) (by omega);unfold comb kO;split
 ·simp
 ·omega
theorem cN{α:Type} [Inhabited α]{l:List α}{i:Nat}(h:i<l.length):l.take (i+1)=l.take i++[l.getD i default]:=by
 rw[Zbw,Zan h];simp[List.getD,h]
theorem t69(c:Int)(l:List br)(h:∀v∈l,kO v)(h1:0<=c)(h2:c<=4000000000000)(h3:l.length<=1000000):aU Tryz.prog 69 [ti c,.sl (bI l)] (.agg [ti (comb c l).cost,ti (comb c l).size]):=by
 have ay:=ej;refine c69.ok (by simp) (aK ?_);simp;refine aa.ab ay fw [0,1,4] ?_;simp[Zd];refine aa.ab ay fw [1,4,5,6] ?_;simp[Ze];refine aa.seq ?_;refine aa.ab ay fw [1,4,5,6,7] ?_;simp[Zf];refine aa.block ?_;refine aa.loop (λy:Nat=>⟨DM.look [(1,.v (.sl (bI l))),(4,.ptr 1005 0),(5,.v (ti (en c 1 (l.take y)).cost)),(6,.v (ti (en c 1 (l.take y)).size)),(7,.v (ti y))],cC [(1005,.box [.v (ti 0),.v (ti 0)])],2000,1000,[]⟩)
  (λy=>y<=l.length) (λy=>l.length-y) 0 (Le.aC ?_ ?_ ?_ ?_) (by simp) (λy hy=>?_)
 iterate 3(·simp)
 ·simp[en]
 refine aa.seq ?_;refine aa.ab ay fw [1,4,5,6,7,12] ?_;simp[Zg];refine aa.cond rfl (λbM=>?_) (λbM=>?_)
 ·have bM:y<l.length:=by simpa using bM
  refine aa.skip ?_;simp;refine aa.seq ?_;refine aa.block ?_;have rv:=dP bM;obtain⟨v,hv⟩:∃v,l.getD y default=v:=⟨_,rfl⟩;rw[hv]at rv;have hov:=h v (by rw[<-hv];exact bw bM);obtain⟨o1,o2,o3,o4⟩:=hov;obtain⟨b1,b2,b3,b4⟩:=rK (c:=c) (s:=1) (l:=l.take y) (λv hv=>h v (Zav hv)) h1 h2 (by omega) (by omega);refine aa.dm ay fw [1,4,5,6,7] ?_;simp[Zh,bM,rv];refine aa.dm ay fw [1,4,5,6,7] ?_;simp[Zi];rw[au (by omega),au (by omega),au (by omega)];refine⟨y+1,Le.aC ?_ ?_ ?_ ?_,by omega,by omega⟩;iterate 3(·simp)
  ·simp[cN bM,Bo,-List.getD_eq_getElem?_getD,hv]
 ·have fl:y=l.length:=by simp at bM;omega
  subst fl;rw[Zbn];refine aa.exit ?_;simp;refine aa.seq ?_;refine aa.ab ay fw [4,5,6,32] ?_;simp[Zj];refine aa.cond rfl (λh7=>?_) (λh7=>?_)
  ·have h7:(en c 1 l).cost>=1099511627776:=by simpa using h7
   refine aa.ab ay fw [4] ?_;simp[Zk];refine aa.ret ?_;simp[Kf,comb,h7]
  ·have h7:¬(en c 1 l).cost>=1099511627776:=by simpa using h7
   refine aa.skip ?_;simp;refine aa.ab ay fw [4] ?_;simp[Zl];refine aa.ret ?_;simp[Kf,comb,h7]
def fc:Cell:=⟨1099511627776,0,-1,0⟩
theorem t42:aU Tryz.prog 42 [] (.agg fc.enc):=by
 have ay:=ej;refine c42.ok (by simp) (aK ?_);simp;refine aa.ab ay fw [0] ?_;simp[aah];refine aa.ab ay fw [0] ?_;simp[aai];refine aa.ret ?_;simp[RI,fc,Cell.enc]
def dQ(n s:Int):Int:=n*s*(s+1)/2
theorem cQ{a b A B:Int}(h1:0<=a)(h2:a<=A)(h3:0<=b)(h4:b<=B):0<=a*b/\a*b<=A*B:=by
 refine⟨Zch h1 h3, ?_⟩;exact Int.mul_le_mul h2 h4 h3 (by omega)
theorem t23(n s:Int)(h1:0<=n)(h2:n<=1000000)(h3:0<=s)(h4:s<=1000000):aU Tryz.prog 23 [ti n,ti s] (ti (dQ n s)):=by
 have k1:=cQ h1 h2 h3 h4;have k2:=cQ (b:=s+1) (B:=1000001) k1.1 k1.2 (by omega) (by omega);have w1:IntKind.i64.wrap (n*s)=n*s:=au (by omega);have w2:IntKind.i64.wrap (s+1)=s+1:=au (by omega);have w3:IntKind.i64.wrap (n*s*(s+1))=n*s*(s+1):=au (by omega);have w4:IntKind.i64.wrap ((n*s*(s+1)).tdiv 2)=n*s*(s+1)/2:=by rw[oK k2.1];exact au (by omega)
 have ay:=ej;refine c23.ok (by simp) (aK ?_);simp;refine aa.ab ay fw [0,1] ?_;simp[aaj];refine aa.ab ay fw [4] ?_;simp[aak,w1,w2,w3,w4];refine aa.ret ?_;simp[RJ,dQ]
def pre(st:Int):Nat->Int
 |0=>0
 |n+1=>pre st n+st-n
theorem eD{st:Int}(h:st<=1000):∀n:Nat,(n:Int)<=st->0<=pre st n/\pre st n<=1000*n
 |0,_=>by simp[pre]
 |n+1,hn=>by
  have:=eD h n (by omega);simp only[pre];omega
def cK(n st:Int)(f t:Nat):Int:=(pre st f+t-f)*n
theorem t25(n st:Int)(f t:Nat)(h1:0<=n)(h2:n<=1000)(h3:st<=1000)(h4:(f:Int)<=st)(h5:t<=1000)(h6:f<=t):aU Tryz.prog 25 [ti n,ti st,ti f,ti t] (ti (cK n st f t)):=by
 have ay:=ej;refine c25.ok (by simp) (aK ?_);simp;refine aa.ab ay fw [0,1,2,3] ?_;simp[aal];refine aa.ab ay fw [0,1,2,3,9] ?_;simp[aam];refine aa.seq ?_;refine aa.ab ay fw [0,1,2,3,9,10] ?_;simp[aan];refine aa.block ?_;refine aa.loop (λy:Nat=>⟨DM.look [(0,.v (ti n)),(1,.v (ti st)),(2,.v (ti f)),(3,.v (ti t)),(9,.v (ti (pre st y))),(10,.v (ti y))],cC [],2000,1000,[]⟩)
  (λy=>y<=f) (λy=>f-y) 0 (Le.aC (o:=[]) ?_ ?_ ?_ ?_) (by simp) (λy hy=>?_)
 iterate 3(·simp)
 ·simp[pre]
 refine aa.seq ?_;refine aa.ab ay fw [0,1,2,3,9,10,13] ?_;simp[aao];refine aa.cond rfl (λbM=>?_) (λbM=>?_)
 ·have bM:y<f:=by simpa using bM
  refine aa.skip ?_;simp;refine aa.seq ?_;refine aa.block ?_;refine aa.dm ay fw [0,1,2,3,9,10] ?_;simp[aap];refine aa.dm ay fw [0,1,2,3,9,10] ?_;simp[aaq];have hb:=eD h3 y (by omega);have kz:=eD h3 (y+1) (by omega);simp only[pre]at kz;rw[au (x:=pre st y+st) (by omega),au (x:=pre st y+st-y) (by omega),au (x:=(y:Int)+1) (by omega)];refine⟨y+1,Le.aC (o:=[]) ?_ ?_ ?_ ?_,by omega,by omega⟩;iterate 3(·simp)
  ·simp[pre]
 ·have fl:y=f:=by simp at bM;omega
  subst fl;have hb:=eD h3 y (by omega);have hm:=cQ (a:=pre st y+t-y) (A:=2000000) (b:=n) (B:=1000) (by omega) (by omega) h1 h2;refine aa.exit ?_;simp;refine aa.ab ay fw [8] ?_;simp[aar,au (x:=pre st y+t) (by omega),au (x:=pre st y+t-y) (by omega),au (x:=(pre st y+t-y)*n) (by omega)];refine aa.ret ?_;simp[RK,cK]
def dD(a:Cell)(v:br)(r g:Int):Cell:=if v.cost>=1099511627776 then a else if v.lt a.val\/(v=a.val/\(r<a.ez\/(r=a.ez/\g<a.arg)))then⟨v.cost,v.size,r,g⟩else a
abbrev s92:DM.Spec:=cy (λts=>∃a b c d,ts=[.agg [ti a,ti b],.agg [ti c,ti d]]) (fun|[.agg [.int _ a,.int _ b],.agg [.int _ c,.int _ d]]=>.bool (decide ((⟨a,b⟩:br).lt ⟨c,d⟩))|_=>.bool false) true
theorem ok92:aw Tryz.prog (aX [(92,s92)]):=by
 refine aw.cons aw.nil ?_;rintro ts ⟨a,b,c,d,rfl⟩;exact⟨t92 ⟨a,b⟩ ⟨c,d⟩,λ_=>rfl⟩
theorem t68(a:Cell)(v:br)(r g:Int):aU Tryz.prog 68 [.agg a.enc,.agg [ti v.cost,ti v.size],ti r,ti g] (.agg (dD a v r g).enc):=by
 obtain⟨ac,az,ar,ag⟩:=a;obtain⟨vc,vs⟩:=v;obtain⟨R,hR⟩:∃R,dD ⟨ac,az,ar,ag⟩ ⟨vc,vs⟩ r g=R:=⟨_,rfl⟩;rw[hR];unfold dD at hR;simp only[Cell.val,br.mk.injEq]at hR;have ay:=ok92;refine c68.ok (by simp) (aK ?_);simp[Cell.enc];refine aa.ab ay fw [2,3,4,5,8] ?_;simp[aas];refine aa.le (Le.aC (o:=[(1009,.box [.v (ti 0),.v (ti 0),.v (ti 0),.v (ti 0)])]) (l:=[(2,.v (ti r)),(3,.v (ti g)),(4,.v (.box [ti ac,ti az,ti ar,ti ag])),(5,.v (.box [ti vc,ti vs])),(8,.ptr 1009 0)]) (nxt':=1200) ?_ ?_ ?_ ?_) ?_;iterate 4(·simp)
 refine aa.seq ?_;refine aa.ab ay fw [2,3,4,5,8,13] ?_;simp[aat];refine aa.cond rfl (λh1=>?_) (λh1=>?_)
 ·have h1:vc>=1099511627776:=by simpa using h1
  refine aa.ab ay fw [8] ?_;simp[aau];refine aa.ret ?_;rw[if_pos h1]at hR;subst hR;simp[ER]
 ·have h1:¬vc>=1099511627776:=by simpa using h1
  refine aa.skip ?_;simp;rw[if_neg h1]at hR;obtain⟨c1,bb⟩:∃c1:Bool,decide ((⟨vc,vs⟩:br).lt ⟨ac,az⟩)=c1:=⟨_,rfl⟩;refine aa.ab ay fw [2,3,4,5,8,9] ?_;simp[aav,bb];obtain⟨c2,dL⟩:∃c2:Bool,decide ((vc=ac/\vs=az)/\(r<ar\/(r=ar/\g<ag)))=c2:=⟨_,rfl⟩;refine aa.bY ay fw [(2,.v (ti r)),(3,.v (ti g)),(4,.v (.box [ti ac,ti az,ti ar,ti ag])),(5,.v (.box [ti vc,ti vs])),(8,.ptr 1009 0),(9,.v (.bool c1)),(10,.v (.bool c2))] ?_ ?_
  ·by_cases q1:vc=ac/\vs=az
   ·obtain⟨rfl,rfl⟩:=q1;by_cases q2:r<ar
    ·have:c2=true:=by rw[<-dL];simp[q2]
     simp[Dg,q2,this]
    ·by_cases q3:r=ar
     ·subst q3;by_cases q4:g<ag
      ·have:c2=true:=by rw[<-dL];simp[q4]
       simp[Dg,q4,this]
      ·have:c2=false:=by rw[<-dL];simp[q4]
       simp[Dg,q4,this]
     ·have:c2=false:=by rw[<-dL];simp[q2,q3]
      simp[Dg,q2,q3,this]
   ·have:c2=false:=by rw[<-dL];simp[q1]
    simp[Dg,q1,this]
  refine aa.seq ?_;obtain⟨c3,Xz⟩:∃c3:Bool,(c1||c2)=c3:=⟨_,rfl⟩;refine aa.bY ay fw [(2,.v (ti r)),(3,.v (ti g)),(4,.v (.box [ti ac,ti az,ti ar,ti ag])),(5,.v (.box [ti vc,ti vs])),(8,.ptr 1009 0),(44,.v (.bool c3))] ?_ ?_
  ·cases c1<;>simp[aaw]<;>simp at Xz<;>simp[Xz]
  refine aa.cond rfl (λh5=>?_) (λh5=>?_)
  ·have h5:c3=true:=by simpa using h5
   rw[h5,<-bb,<-dL]at Xz;simp only[ZbL,decide_eq_true_eq]at Xz;rw[if_pos Xz]at hR;refine aa.ab ay fw [8] ?_;simp[aax];refine aa.ret ?_;subst hR;simp[ER]
  ·have h5:c3=false:=by simpa using h5
   rw[h5,<-bb,<-dL]at Xz;simp only[Bool.or_eq_false_iff,decide_eq_false_iff_not]at Xz;rw[if_neg (λh=>h.elim Xz.1 Xz.2)]at hR;refine aa.skip ?_;simp;refine aa.ab ay fw [8] ?_;simp[aay];refine aa.ret ?_;subst hR;simp[ER]
@[simp] theorem KU{a b:List bD}:aR a=aR b↔a=b:=⟨λh=>by have:=congrArg vG h;simpa using this,λh=>by rw[h]⟩
@[simp] theorem oO{a b:List br}:bI a=bI b↔a=b:=⟨λh=>by have:=congrArg lg h;simpa using this,λh=>by rw[h]⟩
@[simp] theorem KV{a b:List Cell}:aM a=aM b↔a=b:=⟨λh=>by have:=congrArg jZ h;simpa using this,λh=>by rw[h]⟩
@[simp] theorem Dr{a b:List Int}:aB a=aB b↔a=b:=⟨λh=>by have:=congrArg fq h;simpa using this,λh=>by rw[h]⟩
@[simp] theorem O0{a b:List bn}:ba a=ba b↔a=b:=⟨λh=>by have:=congrArg zA h;simpa using this,λh=>by rw[h]⟩
@[simp] theorem opsT_inj{a b:List (Int×Int)}:cR a=cR b↔a=b:=⟨λh=>by have:=congrArg xB h;simpa using this,λh=>by rw[h]⟩
@[simp] theorem colsT_inj{a b:List bC}:aV a=aV b↔a=b:=⟨λh=>by have:=congrArg fJ h;simpa using this,λh=>by rw[h]⟩
@[simp] theorem O1{l:List br}:[]=bI l↔l=[]:=by rw[<-OU,oO];exact eq_comm
@[simp] theorem one_valsT{a b:Int}{l:List br}:[[ti a,ti b]]=bI l↔l=[⟨a,b⟩]:=by rw[show [[ti a,ti b]]=bI [⟨a,b⟩]from rfl,oO];exact eq_comm
@[simp] theorem two_valsT{a b c d:Int}{l:List br}:[[ti a,ti b],[ti c,ti d]]=bI l↔l=[⟨a,b⟩,⟨c,d⟩]:=by rw[show [[ti a,ti b],[ti c,ti d]]=bI [⟨a,b⟩,⟨c,d⟩]from rfl,oO];exact eq_comm
@[simp] theorem adm:lg []=[]:=rfl
@[simp] theorem adn{a b:Int}:lg [[ti a,ti b]]=[⟨a,b⟩]:=rfl
@[simp] theorem ado{a b c d:Int}:lg [[ti a,ti b],[ti c,ti d]]=[⟨a,b⟩,⟨c,d⟩]:=rfl
def lH(c:bW)(h f t:Int):Cell:=
 if h<0\/h>=c.an\/f<0\/t<f\/t>=c.aP then fc else c.cells.getD (cK c.an c.aP f.toNat t.toNat+h).toNat fc
def Cy(c:bW):Prop:=0<=c.an/\c.an<=1000/\0<=c.aP/\c.aP<=1000/\c.cells.length<=1000000000000/\∀x∈c.cells,kO x.val
theorem Ic:kO fc.val:=by simp[kO,fc]
theorem TY{c:bW}(hc:Cy c)(h f t:Int):kO (lH c h f t).val:=by
 unfold lH;split
 ·exact Ic
 ·rw[List.getD];cases e:c.cells[(cK c.an c.aP f.toNat t.toNat+h).toNat]? with
  |none=>exact Ic
  |some x=>exact hc.2.2.2.2.2 x (Zaq e)
abbrev s42:DM.Spec:=cy (λts=>ts=[]) (λ_=>.agg [ti 1099511627776,ti 0,ti (-1),ti 0]) true
abbrev s25:DM.Spec:=cy (λts=>∃n st f t:Int,ts=[ti n,ti st,ti f,ti t]/\0<=n/\n<=1000/\st<=1000/\0<=f/\f<=st/\t<=1000/\f<=t) (fun|[.int _ n,.int _ st,.int _ f,.int _ t]=>ti (cK n st f.toNat t.toNat)|_=>.bool false) true
theorem okAt:aw Tryz.prog (aX [(42,s42),(25,s25)]):=by
 refine aw.cons (aw.cons aw.nil ?_) ?_
 ·rintro ts ⟨n,st,f,t,rfl,h1,h2,h3,h4,h5,h6,h7⟩;obtain⟨f,rfl⟩:=Zad h4;obtain⟨t,rfl⟩:=Zad (a:=t) (by omega);exact⟨by simpa using t25 n st f t h1 h2 h3 h5 (by omega) (by omega),λ_=>rfl⟩
 ·rintro ts rfl;exact⟨t42,λ_=>rfl⟩
theorem j6{n st:Int}{f t:Nat}(h1:0<=n)(h2:n<=1000)(h3:st<=1000)(h4:(f:Int)<=st)(h5:t<=1000)(h6:f<=t):0<=cK n st f t/\cK n st f t<=2000000000:=by
 have hb:=eD h3 f h4;have:=cQ (a:=pre st f+t-f) (A:=2000000) (b:=n) (B:=1000) (by omega) (by omega) h1 h2;unfold cK;omega
theorem t19(c:bW)(h f t:Int)(hc:Cy c):aU Tryz.prog 19 [c.enc,.agg [ti h,ti f,ti t]] (.agg (lH c h f t).enc):=by
 obtain⟨cn,cs,cl⟩:=c;obtain⟨k1,k2,k3,k4,k5,k6⟩:=hc;simp only at k1 k2 k3 k4 k5 k6;obtain⟨R,hR⟩:∃R,lH ⟨cn,cs,cl⟩ h f t=R:=⟨_,rfl⟩;rw[hR];unfold lH at hR;simp only at hR;have ay:=okAt;refine c19.ok (by simp) (aK ?_);simp[bW.enc];refine aa.ab ay fw [2,3,4] ?_;simp[aaz];refine aa.le (Le.aC (o:=[(1005,.box [.v (ti 0),.v (ti 0),.v (ti 0),.v (ti 0)])]) (l:=[(2,.v (.box [ti cn,ti cs,.sl (aM cl)])),(3,.v (.box [ti h,ti f,ti t])),(4,.ptr 1005 0)]) (nxt':=1200) ?_ ?_ ?_ ?_) ?_;iterate 4(·simp)
 refine aa.seq ?_;obtain⟨c1,bb⟩:∃c1:Bool,decide (h<0\/h>=cn\/f<0\/t<f\/t>=cs)=c1:=⟨_,rfl⟩;refine aa.bY ay fw [(2,.v (.box [ti cn,ti cs,.sl (aM cl)])),(3,.v (.box [ti h,ti f,ti t])),(4,.ptr 1005 0),(34,.v (.bool c1))] ?_ ?_
 ·by_cases q1:h<0
  ·have:c1=true:=by rw[<-bb];simp[q1]
   simp[A4,q1,this]
  ·skip
   by_cases q2:h>=cn
   ·have:c1=true:=by rw[<-bb];simp[q2]
    simp[A4,q1,q2,this]
   ·skip
    by_cases q3:f<0
    ·have:c1=true:=by rw[<-bb];simp[q3]
     simp[A4,q1,q2,q3,this]
    ·skip
     by_cases q4:t<f
     ·have:c1=true:=by rw[<-bb];simp[q4]
      simp[A4,q1,q2,q3,q4,this]
     ·skip
      by_cases q5:t>=cs
      ·have:c1=true:=by rw[<-bb];simp[q5]
       simp[A4,q1,q2,q3,q4,q5,this]
      ·skip
       have:c1=false:=by rw[<-bb];simp[q1,q2,q3,q4,q5]
       simp[A4,q1,q2,q3,q4,q5,this]
 refine aa.cond rfl (λh1=>?_) (λh1=>?_)
 ·rw[h1]at bb;rw[if_pos (of_decide_eq_true bb)]at hR;subst hR;refine aa.ab ay fw [4] ?_;simp[aaA];refine aa.ret ?_;simp[ES,fc,Cell.enc]
 ·rw[h1]at bb;have bb:=of_decide_eq_false bb;rw[if_neg bb]at hR;obtain⟨f,rfl⟩:=Zad (a:=f) (by omega);obtain⟨t,rfl⟩:=Zad (a:=t) (by omega);simp only[Zak]at hR;refine aa.skip ?_;simp;have Ni:=j6 (n:=cn) (st:=cs) (f:=f) (t:=t) k1 k2 k4 (by omega) (by omega) (by omega);obtain⟨x,hx⟩:∃x,cK cn cs f t+h=x:=⟨_,rfl⟩;have w1:IntKind.i64.wrap (cK cn cs f t+h)=x:=by rw[hx];exact au (by omega)
  rw[hx]at hR;refine aa.ab ay fw [2,4,5] ?_;simp[aaB,and_assoc,w1];refine⟨by omega,by omega,by omega,by omega,by omega,by omega, ?_⟩;refine aa.seq ?_;refine aa.ab ay fw [2,4,5,52] ?_;simp[aaC];refine aa.cond rfl (λh2=>?_) (λh2=>?_)
  ·have h2:(cl.length:Int)<=x:=by simpa using h2
   rw[List.getD,ZaS (by omega)]at hR;subst hR;refine aa.ab ay fw [4] ?_;simp[aaD];refine aa.ret ?_;simp[ES,fc,Cell.enc]
  ·have h2:¬(cl.length:Int)<=x:=by simpa using h2
   obtain⟨x,rfl⟩:=Zad (a:=x) (by omega);have sh:x<cl.length:=by omega
   refine aa.skip ?_;simp;have rr:=fU sh;have hR2:cl.getD x default=R:=by rw[<-hR];simp[List.getD,sh]
   rw[hR2]at rr;refine aa.ab ay fw [4] ?_;simp[aaE,sh,rr,Cell.enc];refine aa.ret ?_;simp[ES]
def cA(c:bW)(own:List Cell)(fr to h f t:Int):br:=if f=fr/\t=to then(own.getD h.toNat default).val else(lH c h f t).val
def XD(c:bW)(own:List Cell)(fr to h f t:Int):Prop:=Cy c/\own.length<=1000000/\(f=fr/\t=to->0<=h/\h<own.length)
theorem oM{c:bW}{own:List Cell}{fr to h f t:Int}(h1:XD c own fr to h f t)(h2:∀x∈own,kO x.val):kO (cA c own fr to h f t):=by
 unfold cA;split
 ·rename_i e;have:=h1.2.2 e;exact h2 _ (bw (by omega))
 ·exact TY h1.1 _ _ _
abbrev s19:DM.Spec:=cy (λts=>∃cn cs cl h f t,ts=[.agg [ti cn,ti cs,.sl (aM cl)],.agg [ti h,ti f,ti t]]/\Cy ⟨cn,cs,cl⟩) (fun|[c,.agg [.int _ h,.int _ f,.int _ t]]=>.agg [ti (lH (pI c) h f t).cost,ti (lH (pI c) h f t).size,ti (lH (pI c) h f t).ez,ti (lH (pI c) h f t).arg]|_=>.bool false) true
theorem ok19:aw Tryz.prog (aX [(19,s19)]):=by
 refine aw.cons aw.nil ?_;rintro ts ⟨cn,cs,cl,h,f,t,rfl,hc⟩;exact⟨by simpa [bW.enc,Cell.enc]using t19 ⟨cn,cs,cl⟩ h f t hc,λ_=>rfl⟩
theorem t70(c:bW)(own:List Cell)(fr to h f t:Int)(hp:XD c own fr to h f t):aU Tryz.prog 70 [c.enc,.sl (aM own),ti fr,ti to,.agg [ti h,ti f,ti t]] (.agg [ti (cA c own fr to h f t).cost,ti (cA c own fr to h f t).size]):=by
 obtain⟨cn,cs,cl⟩:=c;obtain⟨hc,hl,ho⟩:=hp;obtain⟨R,hR⟩:∃R,cA ⟨cn,cs,cl⟩ own fr to h f t=R:=⟨_,rfl⟩;rw[hR];unfold cA at hR;have ay:=ok19;refine c70.ok (by simp) (aK ?_);simp[bW.enc];refine aa.ab ay fw [1,2,3,5,9,10] ?_;simp[aaF];refine aa.le (Le.aC (o:=[(1011,.box [.v (ti 0),.v (ti 0)])]) (l:=[(1,.v (.sl (aM own))),(2,.v (ti fr)),(3,.v (ti to)),(5,.v (.box [ti cn,ti cs,.sl (aM cl)])),(9,.v (.box [ti h,ti f,ti t])),(10,.ptr 1011 0)]) (nxt':=1200) ?_ ?_ ?_ ?_) ?_;iterate 4(·simp)
 refine aa.seq ?_;obtain⟨c1,bb⟩:∃c1:Bool,decide (f=fr/\t=to)=c1:=⟨_,rfl⟩;refine aa.bY ay fw [(1,.v (.sl (aM own))),(5,.v (.box [ti cn,ti cs,.sl (aM cl)])),(9,.v (.box [ti h,ti f,ti t])),(10,.ptr 1011 0),(20,.v (.bool c1))] ?_ ?_
 ·by_cases q1:f=fr
  ·by_cases q2:t=to
   ·have:c1=true:=by rw[<-bb];simp[q1,q2]
    simp[MV,q1,q2,this]
   ·have:c1=false:=by rw[<-bb];simp[q2]
    simp[MV,q1,q2,this]
  ·have:c1=false:=by rw[<-bb];simp[q1]
   simp[MV,q1,this]
 refine aa.cond rfl (λh1=>?_) (λh1=>?_)
 ·rw[h1]at bb;have bb:=of_decide_eq_true bb;rw[if_pos bb]at hR;obtain⟨g1,g2⟩:=ho bb;obtain⟨h,rfl⟩:=Zad g1;have qj:h<own.length:=by omega
  have rr:=fU qj;simp only[Zak]at hR;obtain⟨x,hx⟩:∃x,own.getD h default=x:=⟨_,rfl⟩;rw[hx]at rr hR;refine aa.ab ay fw [10] ?_;simp[aaG,qj,rr,Cell.enc];refine aa.ret ?_;subst hR;simp[Ki]
 ·rw[h1]at bb;have bb:=of_decide_eq_false bb;rw[if_neg bb]at hR;refine aa.skip ?_;simp;refine aa.ab ay fw [10] ?_;simp[aaH,and_assoc,hc];refine aa.ret ?_;subst hR;simp[Ki]
def ug(n:aG)(r:bD):Prop:=0<=r.head/\r.head<n.an/\0<=r.bE/\r.bE<=1000/\(r.kind=1\/(r.kind=2/\0<=r.a/\r.a<n.aW)\/(r.kind=3/\0<=r.a/\r.a<n.an)\/(r.kind=4/\0<=r.a/\r.a<n.an/\0<=r.b/\r.b<n.an))
def oX(n:aG):Prop:=1<=n.an/\n.an<=1000/\n.rules.length<=600/\∀r∈n.rules,ug n r
def vH(l:aL):Prop:=1<=l.aP/\l.aP<=1000/\l.aD.length<=1000000000/\∀a∈l.aD,0<=a.cost/\a.cost<=1099511627776
def Nn(n:aG)(own:List Cell):Prop:=(own.length:Int)=n.an/\∀x∈own,kO x.val
def stepT(r:bD)(aD:List bn)(fr to i:Int)(x:Cell)(k:Nat):Cell:=
 if(aD.getD k default).f=fr/\(aD.getD k default).t=to/\(aD.getD k default).term=r.a then dD x (comb (r.bE+(aD.getD k default).cost) []) i k else x
def qa(r:bD)(c:bW)(own:List Cell)(fr to i:Int)(x:Cell)(k:Nat):Cell:=
 dD x (comb r.bE [cA c own fr to r.a fr (fr+k),cA c own fr to r.b (fr+k) to]) i (fr+k)
def lz(r:bD)(l:aL)(c:bW)(own:List Cell)(fr to i:Int)(x:Cell):Cell:=
 if r.kind=1 then(if fr=to then dD x (comb r.bE []) i fr else x)
 else if r.kind=2 then(List.range l.aD.length).foldl (stepT r l.aD fr to i) x
 else if r.kind=3 then dD x (comb r.bE [cA c own fr to r.a fr to]) i fr
 else(List.range (to-fr+1).toNat).foldl (qa r c own fr to i) x
def dK(n:aG)(l:aL)(c:bW)(own:List Cell)(fr to:Int)(i:Nat):Cell:=
 lz (n.rules.getD i default) l c own fr to i (own.getD (n.rules.getD i default).head.toNat default)
abbrev s69:DM.Spec:=cy (λts=>∃c l,ts=[ti c,.sl (bI l)]/\(∀v∈l,kO v)/\0<=c/\c<=4000000000000/\l.length<=1000000) (fun|[.int _ c,.sl l]=>.agg [ti (comb c (lg l)).cost,ti (comb c (lg l)).size]|_=>.bool false) true
abbrev s68:DM.Spec:=cy (λts=>∃a b c d vc vs r g,ts=[.agg [ti a,ti b,ti c,ti d],.agg [ti vc,ti vs],ti r,ti g])
 (fun|[.agg [.int _ a,.int _ b,.int _ c,.int _ d],.agg [.int _ vc,.int _ vs],.int _ r,.int _ g]=>.agg [ti (dD ⟨a,b,c,d⟩ ⟨vc,vs⟩ r g).cost,ti (dD ⟨a,b,c,d⟩ ⟨vc,vs⟩ r g).size,ti (dD ⟨a,b,c,d⟩ ⟨vc,vs⟩ r g).ez,ti (dD ⟨a,b,c,d⟩ ⟨vc,vs⟩ r g).arg]|_=>.bool false) true
abbrev s70:DM.Spec:=cy (λts=>∃cn cs cl own fr to h f t,ts=[.agg [ti cn,ti cs,.sl (aM cl)],.sl (aM own),ti fr,ti to,.agg [ti h,ti f,ti t]]/\XD ⟨cn,cs,cl⟩ own fr to h f t)
 (fun|[c,.sl own,.int _ fr,.int _ to,.agg [.int _ h,.int _ f,.int _ t]]=>.agg [ti (cA (pI c) (jZ own) fr to h f t).cost,ti (cA (pI c) (jZ own) fr to h f t).size]|_=>.bool false) true
theorem okI:aw Tryz.prog (aX [(69,s69),(68,s68),(70,s70)]):=by
 refine aw.cons (aw.cons (aw.cons aw.nil ?_) ?_) ?_
 ·rintro ts ⟨cn,cs,cl,own,fr,to,h,f,t,rfl,hp⟩;exact⟨by simpa [bW.enc]using t70 ⟨cn,cs,cl⟩ own fr to h f t hp,λ_=>rfl⟩
 ·rintro ts ⟨a,b,c,d,vc,vs,r,g,rfl⟩;exact⟨by simpa [Cell.enc]using t68 ⟨a,b,c,d⟩ ⟨vc,vs⟩ r g,λ_=>rfl⟩
 ·rintro ts ⟨c,l,rfl,h1,h2,h3,h4⟩;exact⟨by simpa using t69 c l h1 h2 h3 h4,λ_=>rfl⟩
@[simp] theorem valsT_nil2{l:List br}:bI l=[]↔l=[]:=by rw[eq_comm,O1]
theorem vL:∀v∈([]:List br),kO v:=λv h=>by cases h
theorem t46(n:aG)(l:aL)(c:bW)(own:List Cell)(fr to i:Nat)(hn:oX n)(hl:vH l)(hc:Cy c)(ho:Nn n own)(hi:i<n.rules.length)(qb:fr<=to)(ja:to<=1000):
  aU Tryz.prog 46 [n.enc,l.enc,c.enc,.sl (aM own),ti fr,ti to,ti i] (.agg (dK n l c own fr to i).enc):=by
 obtain⟨r,hr⟩:∃r,n.rules.getD i default=r:=⟨_,rfl⟩;have jV:ug n r:=hn.2.2.2 r (by rw[<-hr];exact bw hi);obtain⟨x,hx⟩:∃x,own.getD r.head.toNat default=x:=⟨_,rfl⟩;obtain⟨R,hR⟩:∃R,dK n l c own fr to i=R:=⟨_,rfl⟩;rw[hR];unfold dK at hR;rw[hr,hx]at hR;obtain⟨nt,nn,ns,rules⟩:=n;obtain⟨ls,aD,fin⟩:=l;obtain⟨cn,cs,cl⟩:=c;obtain⟨rk,rh,ra,rb,rp,rg⟩:=r;obtain⟨xc,xs,xr,xg⟩:=x;obtain⟨q1,q2,q3,q4,q5⟩:=jV;obtain⟨o1,o2⟩:=ho;obtain⟨l1,l2,l3,l4⟩:=hl;obtain⟨n1,n2,n3,n4⟩:=hn;simp only at q1 q2 q3 q4 q5 o1 hr hi hx l1 l2 l3 l4 n1 n2 n3 n4;obtain⟨rh,rfl⟩:=Zad q1;simp only[Zak]at hx;have KX:rh<own.length:=by omega
 have rr:=fT hi;rw[hr]at rr;have rx:=fU KX;rw[hx]at rx;have qg:∀{h:Int},0<=h->h<nn->∀f t:Int,XD ⟨cn,cs,cl⟩ own fr to h f t:=λh0 h1 f t=>⟨hc,by omega,λ_=>⟨h0,by omega⟩⟩;have ay:=okI;refine c46.ok (by simp) (aK ?_);simp[aG.enc,aL.enc,bW.enc];refine aa.ab ay fw [3,4,5,6,7,8,9,14] ?_;simp[Hb];refine aa.le (Le.aC (o:=[(1015,.box [.v (ti 0),.v (ti 0),.v (ti 0),.v (ti 0)])]) (l:=[(3,.v (.sl (aM own))),(4,.v (ti fr)),(5,.v (ti to)),(6,.v (ti i)),(7,.v (.box [ti nt,ti nn,ti ns,.sl (aR rules)])),(8,.v (.box [ti ls,.sl (ba aD),.sl (aB fin)])),(9,.v (.box [ti cn,ti cs,.sl (aM cl)])),(14,.ptr 1015 0)]) (nxt':=1200) ?_ ?_ ?_ ?_) ?_;iterate 4(·simp)
 refine aa.ab ay fw [3,4,5,6,7,8,9,14,15] ?_;simp[MW,hi,rr,bD.enc];refine aa.le (Le.aC (o:=[(1015,.box [.v (ti 0),.v (ti 0),.v (ti 0),.v (ti 0)])]) (l:=[(3,.v (.sl (aM own))),(4,.v (ti fr)),(5,.v (ti to)),(6,.v (ti i)),(7,.v (.box [ti nt,ti nn,ti ns,.sl (aR rules)])),(8,.v (.box [ti ls,.sl (ba aD),.sl (aB fin)])),(9,.v (.box [ti cn,ti cs,.sl (aM cl)])),(14,.ptr 1015 0),(15,.v (.box [ti rk,ti rh,ti ra,ti rb,ti rp,ti rg]))]) (nxt':=1400) ?_ ?_ ?_ ?_) ?_;iterate 4(·simp)
 refine aa.ab ay fw [3,4,5,6,7,8,9,14,15,16] ?_;simp[MX,KX,rx,Cell.enc];refine aa.le (Le.aC (o:=[(1015,.box [.v (ti 0),.v (ti 0),.v (ti 0),.v (ti 0)]),(1417,.box [.v (ti xc),.v (ti xs),.v (ti xr),.v (ti xg)])]) (l:=[(3,.v (.sl (aM own))),(4,.v (ti fr)),(5,.v (ti to)),(6,.v (ti i)),(7,.v (.box [ti nt,ti nn,ti ns,.sl (aR rules)])),(8,.v (.box [ti ls,.sl (ba aD),.sl (aB fin)])),(9,.v (.box [ti cn,ti cs,.sl (aM cl)])),(14,.ptr 1015 0),(15,.v (.box [ti rk,ti rh,ti ra,ti rb,ti rp,ti rg])),(16,.ptr 1417 0)]) (nxt':=1600) ?_ ?_ ?_ ?_) ?_;iterate 4(·simp)
 refine aa.seq ?_;refine aa.ab ay fw [3,4,5,6,8,9,14,15,16,33] ?_;simp[Hc];refine aa.block ?_;refine aa.ab ay fw [3,4,5,6,8,9,14,15,16,33,70] ?_;simp[Hd];refine aa.cond rfl (λk1=>?_) (λk1=>?_)
 ·have k1:rk=1:=by simpa using k1
  rw[show rk=1 from k1]at hR;simp only[lz,if_pos]at hR;refine aa.ab ay fw [4,6,14,15,16,74] ?_;simp[aaI];refine aa.cond rfl (λk2=>?_) (λk2=>?_)
  ·have k2:(fr:Int)=to:=by simpa using k2
   rw[if_pos k2]at hR;refine aa.dm ay fw [14,16] ?_;simp[aaJ,and_assoc];refine⟨by omega,by omega, ?_⟩;refine aa.ab ay fw [14] ?_;simp[xn];refine aa.ret ?_;subst hR;simp[pF,Cell.enc]
  ·have k2:¬(fr:Int)=to:=by simpa using k2
   rw[if_neg k2]at hR;refine aa.skip ?_;simp;refine aa.ab ay fw [14] ?_;simp[xn];refine aa.ret ?_;subst hR;simp[pF,Cell.enc]
 ·have k1:¬rk=1:=by simpa using k1
  simp only[lz,k1,if_false]at hR;refine aa.ab ay fw [3,4,5,6,8,9,14,15,16,33,82] ?_;simp[aaK];refine aa.cond rfl (λk3=>?_) (λk3=>?_)
  ·have k3:rk=2:=by simpa using k3
   rw[if_pos k3]at hR;refine aa.ab ay fw [4,5,6,8,14,15,16,17] ?_;simp[aaL];refine aa.block ?_;refine aa.loop (λy:Nat=>⟨DM.look [(4,.v (ti fr)),(5,.v (ti to)),(6,.v (ti i)),(8,.v (.box [ti ls,.sl (ba aD),.sl (aB fin)])),(14,.ptr 1015 0),(15,.v (.box [ti rk,ti rh,ti ra,ti rb,ti rp,ti rg])),(16,.ptr 1417 0),(17,.v (ti y))],cC [(1015,.box [.v (ti 0),.v (ti 0),.v (ti 0),.v (ti 0)]),(1417,.box [.v (ti ((List.range y).foldl (stepT ⟨rk,rh,ra,rb,rp,rg⟩ aD fr to i) ⟨xc,xs,xr,xg⟩).cost),.v (ti ((List.range y).foldl (stepT ⟨rk,rh,ra,rb,rp,rg⟩ aD fr to i) ⟨xc,xs,xr,xg⟩).size),.v (ti ((List.range y).foldl (stepT ⟨rk,rh,ra,rb,rp,rg⟩ aD fr to i) ⟨xc,xs,xr,xg⟩).ez),.v (ti ((List.range y).foldl (stepT ⟨rk,rh,ra,rb,rp,rg⟩ aD fr to i) ⟨xc,xs,xr,xg⟩).arg)])],2000,1000,[]⟩)
    (λy=>y<=aD.length) (λy=>aD.length-y) 0 (Le.aC ?_ ?_ ?_ ?_) (by simp) (λy hy=>?_)
   iterate 4(·simp)
   obtain⟨X,hX⟩:∃X,((List.range y).foldl (stepT ⟨rk,rh,ra,rb,rp,rg⟩ aD fr to i) ⟨xc,xs,xr,xg⟩)=X:=⟨_,rfl⟩;rw[hX];refine aa.seq ?_;refine aa.ab ay fw [4,5,6,8,14,15,16,17,88] ?_;simp[aaM];refine aa.cond rfl (λbM=>?_) (λbM=>?_)
   ·have bM:y<aD.length:=by simpa using bM
    refine aa.skip ?_;simp;refine aa.seq ?_;refine aa.block ?_;have ra1:=kS bM;obtain⟨a,ha⟩:∃a,aD.getD y default=a:=⟨_,rfl⟩;rw[ha]at ra1;obtain⟨g1,g2⟩:=l4 a (by rw[<-ha];exact bw bM);obtain⟨c1,bb⟩:∃c1:Bool,decide (a.f=fr/\a.t=to/\a.term=ra)=c1:=⟨_,rfl⟩;refine aa.bY ay fw [(4,.v (ti fr)),(5,.v (ti to)),(6,.v (ti i)),(8,.v (.box [ti ls,.sl (ba aD),.sl (aB fin)])),(14,.ptr 1015 0),(15,.v (.box [ti rk,ti rh,ti ra,ti rb,ti rp,ti rg])),(16,.ptr 1417 0),(17,.v (ti y)),(119,.v (.bool c1))] ?_ ?_
    ·by_cases q1:a.f=fr
     ·by_cases q2:a.t=to
      ·by_cases q3:a.term=ra
       ·have:c1=true:=by rw[<-bb];simp[q1,q2,q3]
        simp[A5,bM,ra1,bn.enc,q1,q2,q3,this]
       ·have:c1=false:=by rw[<-bb];simp[q3]
        simp[A5,bM,ra1,bn.enc,q1,q2,q3,this]
      ·have:c1=false:=by rw[<-bb];simp[q2]
       simp[A5,bM,ra1,bn.enc,q1,q2,this]
     ·have:c1=false:=by rw[<-bb];simp[q1]
      simp[A5,bM,ra1,bn.enc,q1,this]
    refine aa.cond rfl (λh5=>?_) (λh5=>?_)
    ·rw[h5]at bb;have bb:=of_decide_eq_true bb;have lG:stepT ⟨rk,rh,ra,rb,rp,rg⟩ aD fr to i X y=dD X (comb (rp+a.cost) []) i y:=by unfold stepT;rw[ha,if_pos bb]
     refine aa.dm ay fw [4,5,6,8,14,15,16,17] ?_;simp[RL,bM,ra1,bn.enc,and_assoc,au (x:=rp+a.cost) (by omega)];refine⟨by omega,by omega, ?_⟩;refine aa.dm ay fw [4,5,6,8,14,15,16,17] ?_;simp[Kj];rw[au (x:=(y:Int)+1) (by omega)];refine⟨y+1,Le.aC ?_ ?_ ?_ ?_,by omega,by omega⟩
     ·simp
     ·simp
     ·simp[ZaE,Zat,hX,lG]
     ·simp
    ·rw[h5]at bb;have bb:=of_decide_eq_false bb;have lG:stepT ⟨rk,rh,ra,rb,rp,rg⟩ aD fr to i X y=X:=by unfold stepT;rw[ha,if_neg bb]
     refine aa.skip ?_;simp;refine aa.dm ay fw [4,5,6,8,14,15,16,17] ?_;simp[Kj];rw[au (x:=(y:Int)+1) (by omega)];refine⟨y+1,Le.aC ?_ ?_ ?_ ?_,by omega,by omega⟩
     ·simp
     ·simp
     ·simp[ZaE,Zat,hX,lG]
     ·simp
   ·have fl:y=aD.length:=by simp at bM;omega
    subst fl;rw[hX]at hR;refine aa.exit ?_;simp;refine aa.ab ay fw [14] ?_;simp[xn];refine aa.ret ?_;subst hR;simp[pF,Cell.enc]
  ·have k3:¬rk=2:=by simpa using k3
   rw[if_neg k3]at hR;refine aa.ab ay fw [3,4,5,6,9,14,15,16,134] ?_;simp[RM];refine aa.cond rfl (λk4=>?_) (λk4=>?_)
   ·have k4:rk=3:=by simpa using k4
    rw[if_pos k4]at hR;have zm:=qg (h:=ra) (by omega) (by omega) fr to;have jl:=oM zm o2;obtain⟨⟨vc,vs⟩,hv⟩:∃v,cA ⟨cn,cs,cl⟩ own fr to ra fr to=v:=⟨_,rfl⟩;rw[hv]at jl hR;refine aa.ab ay fw [6,14,15,16,18,4] ?_;simp[RN,and_assoc,zm,hv];refine aa.le (Le.aC (o:=[(1015,.box [.v (ti 0),.v (ti 0),.v (ti 0),.v (ti 0)]),(1417,.box [.v (ti xc),.v (ti xs),.v (ti xr),.v (ti xg)])]) (l:=[(4,.v (ti fr)),(6,.v (ti i)),(14,.ptr 1015 0),(15,.v (.box [ti rk,ti rh,ti ra,ti rb,ti rp,ti rg])),(16,.ptr 1417 0),(18,.v (.box [ti vc,ti vs]))]) (nxt':=2200) ?_ ?_ ?_ ?_) ?_;iterate 4(·simp)
    refine aa.dm ay fw [14,16] ?_;simp[RP,and_assoc,jl,chunk];refine⟨by omega,by omega, ?_⟩;refine aa.ab ay fw [14] ?_;simp[xn];refine aa.ret ?_;subst hR;simp[pF,Cell.enc]
   ·have k4:¬rk=3:=by simpa using k4
    rw[if_neg k4]at hR;refine aa.ab ay fw [3,4,5,6,9,14,15,16,19] ?_;simp[RQ];refine aa.block ?_;refine aa.loop (λy:Nat=>⟨DM.look [(3,.v (.sl (aM own))),(4,.v (ti fr)),(5,.v (ti to)),(6,.v (ti i)),(9,.v (.box [ti cn,ti cs,.sl (aM cl)])),(14,.ptr 1015 0),(15,.v (.box [ti rk,ti rh,ti ra,ti rb,ti rp,ti rg])),(16,.ptr 1417 0),(19,.v (ti ((fr+y:Nat):Int)))],cC [(1015,.box [.v (ti 0),.v (ti 0),.v (ti 0),.v (ti 0)]),(1417,.box [.v (ti ((List.range y).foldl (qa ⟨rk,rh,ra,rb,rp,rg⟩ ⟨cn,cs,cl⟩ own fr to i) ⟨xc,xs,xr,xg⟩).cost),.v (ti ((List.range y).foldl (qa ⟨rk,rh,ra,rb,rp,rg⟩ ⟨cn,cs,cl⟩ own fr to i) ⟨xc,xs,xr,xg⟩).size),.v (ti ((List.range y).foldl (qa ⟨rk,rh,ra,rb,rp,rg⟩ ⟨cn,cs,cl⟩ own fr to i) ⟨xc,xs,xr,xg⟩).ez),.v (ti ((List.range y).foldl (qa ⟨rk,rh,ra,rb,rp,rg⟩ ⟨cn,cs,cl⟩ own fr to i) ⟨xc,xs,xr,xg⟩).arg)])],3000,1000,[]⟩)
     (λy=>fr+y<=to+1) (λy=>to+1-(fr+y)) 0 (Le.aC ?_ ?_ ?_ ?_) (by omega) (λy hy=>?_)
    iterate 4(·simp)
    obtain⟨X,hX⟩:∃X,((List.range y).foldl (qa ⟨rk,rh,ra,rb,rp,rg⟩ ⟨cn,cs,cl⟩ own fr to i) ⟨xc,xs,xr,xg⟩)=X:=⟨_,rfl⟩;rw[hX];obtain⟨m,hm⟩:∃m,fr+y=m:=⟨_,rfl⟩;rw[hm];refine aa.seq ?_;refine aa.ab ay fw [3,4,5,6,9,14,15,16,19,37] ?_;simp[RU];refine aa.cond rfl (λk5=>?_) (λk5=>?_)
    ·have k5:m<=to:=by simp at k5;omega
     refine aa.skip ?_;simp;refine aa.seq ?_;refine aa.block ?_;have hu1:=qg (h:=ra) (by omega) (by omega) fr m;have hu2:=oM hu1 o2;obtain⟨⟨uc,us⟩,hu⟩:∃v,cA ⟨cn,cs,cl⟩ own fr to ra fr m=v:=⟨_,rfl⟩;rw[hu]at hu2;refine aa.ab ay fw [3,4,5,6,9,14,15,16,19,20] ?_;simp[RW,and_assoc,hu1,hu];refine aa.le (Le.aC (o:=[(1015,.box [.v (ti 0),.v (ti 0),.v (ti 0),.v (ti 0)]),(1417,.box [.v (ti X.cost),.v (ti X.size),.v (ti X.ez),.v (ti X.arg)])]) (l:=[(3,.v (.sl (aM own))),(4,.v (ti fr)),(5,.v (ti to)),(6,.v (ti i)),(9,.v (.box [ti cn,ti cs,.sl (aM cl)])),(14,.ptr 1015 0),(15,.v (.box [ti rk,ti rh,ti ra,ti rb,ti rp,ti rg])),(16,.ptr 1417 0),(19,.v (ti m)),(20,.v (.box [ti uc,ti us]))]) (nxt':=3200) ?_ ?_ ?_ ?_) ?_;iterate 4(·simp)
     have zm:=qg (h:=rb) (by omega) (by omega) m to;have jl:=oM zm o2;obtain⟨⟨vc,vs⟩,hv⟩:∃v,cA ⟨cn,cs,cl⟩ own fr to rb m to=v:=⟨_,rfl⟩;rw[hv]at jl;refine aa.ab ay fw [3,4,5,6,9,14,15,16,19,20,21] ?_;simp[RX,and_assoc,zm,hv];refine aa.le (Le.aC (o:=[(1015,.box [.v (ti 0),.v (ti 0),.v (ti 0),.v (ti 0)]),(1417,.box [.v (ti X.cost),.v (ti X.size),.v (ti X.ez),.v (ti X.arg)])]) (l:=[(3,.v (.sl (aM own))),(4,.v (ti fr)),(5,.v (ti to)),(6,.v (ti i)),(9,.v (.box [ti cn,ti cs,.sl (aM cl)])),(14,.ptr 1015 0),(15,.v (.box [ti rk,ti rh,ti ra,ti rb,ti rp,ti rg])),(16,.ptr 1417 0),(19,.v (ti m)),(20,.v (.box [ti uc,ti us])),(21,.v (.box [ti vc,ti vs]))]) (nxt':=3400) ?_ ?_ ?_ ?_) ?_;iterate 4(·simp)
     have Eg:(fr:Int)+y=m:=by omega
     have lG:qa ⟨rk,rh,ra,rb,rp,rg⟩ ⟨cn,cs,cl⟩ own fr to i X y=dD X (comb rp [⟨uc,us⟩,⟨vc,vs⟩]) i m:=by unfold qa;simp only[Eg,hu,hv]
     refine aa.dm ay fw [3,4,5,6,9,14,15,16,19] ?_;simp[RY,and_assoc,hu2,jl,chunk];refine⟨by omega,by omega, ?_⟩;refine aa.dm ay fw [3,4,5,6,9,14,15,16,19] ?_;simp[RZ];rw[au (x:=(m:Int)+1) (by omega)];refine⟨y+1,Le.aC ?_ ?_ ?_ ?_,by omega,by omega⟩
     ·simp
     ·simp
     ·simp[ZaE,Zat,hX,lG]
     ·simp;omega
    ·have k5:y=(to-fr+1:Int).toNat:=by simp at k5;omega
     subst k5;rw[hX]at hR;refine aa.exit ?_;simp;refine aa.ab ay fw [14] ?_;simp[xn];refine aa.ret ?_;subst hR;simp[pF]
def kP(x:Cell):Prop:=kO x.val/\-1<=x.ez/\x.ez<=600/\0<=x.arg/\x.arg<=10000000000
def Bx(x:Cell):Nat:=((x.cost.toNat*2199023255552+x.size.toNat)*1024+(x.ez+1).toNat)*17179869184+x.arg.toNat
def goes(x y:Cell):Prop:=kP y/\(y=x\/Bx y<Bx x)
theorem jD{x:Cell}{v:br}{r g:Int}(hx:kP x)(hv:kO v)(h1:0<=r)(h2:r<=600)(h3:0<=g)(h4:g<=10000000000):goes x (dD x v r g):=by
 obtain⟨xc,xs,xr,xg⟩:=x;obtain⟨vc,vs⟩:=v;obtain⟨⟨a1,a2,a3,a4⟩,a5,a6,a7,a8⟩:=hx;obtain⟨b1,b2,b3,b4⟩:=hv;simp only[]at a1 a2 a3 a4 a5 a6 a7 a8 b1 b2 b3 b4;unfold dD;split
 ·exact⟨⟨⟨a1,a2,a3,a4⟩,a5,a6,a7,a8⟩,.inl rfl⟩
 ·split
  ·rename_i h;refine⟨⟨⟨b1,b2,b3,b4⟩,by simp only;omega,by simp only;omega,by simp only;omega,by simp only;omega⟩,.inr ?_⟩;simp only[br.lt,Cell.val,br.mk.injEq]at h;simp only[Bx];omega
  ·exact⟨⟨⟨a1,a2,a3,a4⟩,a5,a6,a7,a8⟩,.inl rfl⟩
theorem sD{x:Cell}(h:kP x):goes x x:=⟨h,.inl rfl⟩
theorem KY{x y z:Cell}(h:goes x y)(k:goes y z):goes x z:=by
 refine⟨k.1, ?_⟩;rcases h.2 with rfl|h2
 ·exact k.2
 ·rcases k.2 with rfl|k2
  ·exact .inr h2
  ·exact .inr (by omega)
theorem xy{f:Cell->Nat->Cell}{N:Nat}(hf:∀x k,k<N->kP x->goes x (f x k))(x:Cell)(hx:kP x):goes x ((List.range N).foldl f x):=by
 induction N with
 |zero=>exact sD hx
 |succ N ih=>
  rw[ZaE,Zat];have h1:=ih λx k hk=>hf x k (by omega);exact KY h1 (hf _ N (by omega) h1.1)
theorem vR{n:aG}{l:aL}{c:bW}{own:List Cell}{fr to i:Nat}(hn:oX n)(hl:vH l)(hc:Cy c)(ho:Nn n own)(hi:i<n.rules.length)(qb:fr<=to)(ja:to<=1000)
  (hx:kP (own.getD (n.rules.getD i default).head.toNat default)):goes (own.getD (n.rules.getD i default).head.toNat default) (dK n l c own fr to i):=by
 unfold dK;obtain⟨r,hr⟩:∃r,n.rules.getD i default=r:=⟨_,rfl⟩;have jV:ug n r:=hn.2.2.2 r (by rw[<-hr];exact bw hi);rw[hr]at hx⊢;obtain⟨x,gb⟩:∃x,own.getD r.head.toNat default=x:=⟨_,rfl⟩;rw[gb]at hx⊢;obtain⟨q1,q2,q3,q4,q5⟩:=jV;have hi2:=hn.2.2.1;have hvp:∀h f t:Int,0<=h->h<n.an->kO (cA c own fr to h f t):=λh f t h1 h2=>oM ⟨hc,by have:=ho.1;have:=hn.2.1;omega,λ_=>⟨h1,by have:=ho.1;omega⟩⟩ ho.2;unfold lz;split
 ·split
  ·exact jD hx (iH vL q3 (by omega)) (by omega) (by omega) (by omega) (by omega)
  ·exact sD hx
 ·split
  ·refine xy (λx k hk hx=>?_) x hx;unfold stepT;split
   ·have:=hl.2.2.2 (l.aD.getD k default) (bw hk);have:=hl.2.2.1;exact jD hx (iH vL (by omega) (by omega)) (by omega) (by omega) (by omega) (by omega)
   ·exact sD hx
  ·split
   ·refine jD hx (iH (λv hv=>?_) q3 (by omega)) (by omega) (by omega) (by omega) (by omega);simp only[Zah]at hv;subst hv;exact hvp _ _ _ (by omega) (by omega)
   ·refine xy (λx k hk hx=>?_) x hx;unfold qa;refine jD hx (iH (λv hv=>?_) q3 (by omega)) (by omega) (by omega) (by omega) (by omega);simp only[Zag,Zap,or_false]at hv;rcases hv with rfl|rfl<;>exact hvp _ _ _ (by omega) (by omega)
def jE(own:List Cell):Nat:=(own.map Bx).sum
theorem O3{own:List Cell}{h:Nat}{y:Cell}(hh:h<own.length)(hy:Bx y<Bx (own.getD h default)):jE (own.set h y)<jE own:=by
 induction own generalizing h with
 |nil=>simp at hh
 |cons x own ih=>
  cases h with
  |zero=>simp[jE]at hy⊢;omega
  |succ h=>
   have:=ih (h:=h) (by simpa using hh) (by simpa using hy);simp[jE]at this⊢;omega
def oN(n:aG)(l:aL)(c:bW)(fr to:Int)(own:List Cell)(k:Nat):List Cell:=own.set (n.rules.getD k default).head.toNat (dK n l c own fr to k)
def kQ(n:aG)(own:List Cell):Prop:=(own.length:Int)=n.an/\∀x∈own,kP x
theorem kQ.ok{n:aG}{own:List Cell}(h:kQ n own):Nn n own:=⟨h.1,λx hx=>(h.2 x hx).1⟩
theorem Bq{n:aG}{l:aL}{c:bW}{own:List Cell}{fr to k:Nat}(hn:oX n)(hl:vH l)(hc:Cy c)(ho:kQ n own)(hk:k<n.rules.length)(qb:fr<=to)(ja:to<=1000):
  kQ n (oN n l c fr to own k)/\(dK n l c own fr to k≠own.getD (n.rules.getD k default).head.toNat default->jE (oN n l c fr to own k)<jE own):=by
 have jV:=hn.2.2.2 (n.rules.getD k default) (bw hk);have hh:(n.rules.getD k default).head.toNat<own.length:=by have:=ho.1;have:=jV.1;have:=jV.2.1;omega
 have hg:=vR hn hl hc ho.ok hk qb ja (ho.2 _ (bw hh));refine⟨⟨by simpa [oN]using ho.1,λx hx=>?_⟩,λbG=>?_⟩
 ·rcases Za0 hx with h|rfl
  ·exact ho.2 x h
  ·exact hg.1
 ·rcases hg.2 with h|h
  ·exact absurd h bG
  ·exact O3 hh h
def KT(n:aG)(l:aL)(c:bW)(fr to:Int)(own:List Cell):Prop:=∀k,k<n.rules.length->dK n l c own fr to k=own.getD (n.rules.getD k default).head.toNat default
theorem pN(l:List Cell)(i:Nat)(x:Cell):aM (l.set i x)=(aM l).set i x.enc:=by simp[aM,ZbJ]
theorem yK:kP fc:=by simp[kP,kO,fc]
abbrev s46:DM.Spec:=cy (λts=>∃nt nn ns rules ls aD fin cn cs cl own,∃fr to i:Int,ts=[.agg [ti nt,ti nn,ti ns,.sl (aR rules)],.agg [ti ls,.sl (ba aD),.sl (aB fin)],.agg [ti cn,ti cs,.sl (aM cl)],.sl (aM own),ti fr,ti to,ti i]/\
  oX ⟨nt,nn,ns,rules⟩/\vH ⟨ls,aD,fin⟩/\Cy ⟨cn,cs,cl⟩/\Nn ⟨nt,nn,ns,rules⟩ own/\0<=i/\i<rules.length/\0<=fr/\fr<=to/\to<=1000)
 (fun|[n,l,c,.sl own,.int _ fr,.int _ to,.int _ i]=>.agg [ti (dK (nS n) (ud l) (pI c) (jZ own) fr to i.toNat).cost,ti (dK (nS n) (ud l) (pI c) (jZ own) fr to i.toNat).size,ti (dK (nS n) (ud l) (pI c) (jZ own) fr to i.toNat).ez,ti (dK (nS n) (ud l) (pI c) (jZ own) fr to i.toNat).arg]|_=>.bool false) true
theorem okSp:aw Tryz.prog (aX [(46,s46),(42,s42)]):=by
 refine aw.cons (aw.cons aw.nil ?_) ?_
 ·rintro ts rfl;exact⟨t42,λ_=>rfl⟩
 ·rintro ts ⟨nt,nn,ns,rules,ls,aD,fin,cn,cs,cl,own,fr,to,i,rfl,h1,h2,h3,h4,h5,h6,h7,h8,h9⟩;obtain⟨i,rfl⟩:=Zad h5;obtain⟨fr,rfl⟩:=Zad h7;obtain⟨to,rfl⟩:=Zad (a:=to) (by omega);exact⟨by simpa [aG.enc,aL.enc,bW.enc,Cell.enc]using t46 ⟨nt,nn,ns,rules⟩ ⟨ls,aD,fin⟩ ⟨cn,cs,cl⟩ own fr to i h1 h2 h3 h4 (by simpa using h6) (by omega) (by omega),λ_=>rfl⟩
structure SM where
 own:List Cell
 more:Bool
def dt(n:aG)(l:aL)(c:bW)(fr to:Int)(own:List Cell)(y:Nat):List Cell:=(List.range y).foldl (oN n l c fr to) own
theorem nB(n:aG)(l:aL)(c:bW)(fr to:Int)(own:List Cell)(y:Nat):dt n l c fr to own (y+1)=oN n l c fr to (dt n l c fr to own y) y:=by
 simp[dt,ZaE,Zat]
theorem Br{own:List Cell}{h:Nat}{x:Cell}(hx:x=own.getD h default):own.set h x=own:=by
 subst hx;apply Zbl;intro j;rw[Zbx];split
 ·rename_i e;subst e;split
  ·rename_i hl;simp[List.getD,hl]
  ·rename_i hl;rw[ZaS (by omega)]
 ·rfl
theorem sF{n:aG}{l:aL}{c:bW}{own:List Cell}{fr to:Nat}(hn:oX n)(hl:vH l)(hc:Cy c)(ho:kQ n own)(qb:fr<=to)(ja:to<=1000):∀y,y<=n.rules.length->
  kQ n (dt n l c fr to own y)/\((dt n l c fr to own y=own/\∀k,k<y->dK n l c own fr to k=own.getD (n.rules.getD k default).head.toNat default)\/jE (dt n l c fr to own y)<jE own)
 |0,_=>⟨ho,.inl ⟨rfl,λk h=>by omega⟩⟩
 |y+1,hy=>by
  obtain⟨h1,h2⟩:=sF hn hl hc ho qb ja y (by omega);obtain⟨h3,h4⟩:=Bq hn hl hc h1 (k:=y) (by omega) qb ja;rw[nB];refine⟨h3, ?_⟩;by_cases e:dK n l c (dt n l c fr to own y) fr to y=(dt n l c fr to own y).getD (n.rules.getD y default).head.toNat default
  ·have e2:oN n l c fr to (dt n l c fr to own y) y=dt n l c fr to own y:=Br e;rw[e2];rcases h2 with⟨g1,g2⟩|h2
   ·refine .inl ⟨g1,λk hk=>?_⟩;by_cases qY:k=y
    ·subst qY;rwa [g1]at e
    ·exact g2 k (by omega)
   ·exact .inr h2
  ·have:=h4 e;rcases h2 with⟨g1,g2⟩|h2
   ·rw[g1]at this⊢;exact .inr this
   ·exact .inr (by omega)
def tr(n:aG)(l:aL)(c:bW)(fr to:Int):Nat->List Cell->List Cell
 |0,own=>own
 |f+1,own=>if dt n l c fr to own n.rules.length=own then own else tr n l c fr to f (dt n l c fr to own n.rules.length)
theorem O4{n:aG}{l:aL}{c:bW}{own:List Cell}{fr to:Int}{f:Nat}{R:List Cell}(hs:dt n l c fr to own n.rules.length=own\/jE (dt n l c fr to own n.rules.length)<jE own)(h1:jE own<f)(h2:tr n l c fr to f own=R):
  (dt n l c fr to own n.rules.length≠own->jE (dt n l c fr to own n.rules.length)<jE own/\∃f,jE (dt n l c fr to own n.rules.length)<f/\tr n l c fr to f (dt n l c fr to own n.rules.length)=R)/\(dt n l c fr to own n.rules.length=own->own=R):=by
 cases f with
 |zero=>omega
 |succ f=>
  unfold tr at h2;refine⟨λbG=>?_,λe=>?_⟩
  ·rw[if_neg bG]at h2;have:=hs.resolve_left bG;exact⟨this,f,by omega,h2⟩
  ·rwa [if_pos e]at h2
def Cz(n:aG):List Cell:=List.replicate n.an.toNat fc
def jk(n:aG)(l:aL)(c:bW)(fr to:Int):List Cell:=tr n l c fr to (jE (Cz n)+1) (Cz n)
theorem No{n:aG}(hn:oX n):kQ n (Cz n):=by
 refine⟨?_,λx hx=>?_⟩
 ·have:=hn.1;simp only[Cz,ZbC];omega
 ·rw[ZbG hx];exact yK
theorem Ih{n:aG}{l:aL}{c:bW}{fr to:Nat}(hn:oX n)(hl:vH l)(hc:Cy c)(qb:fr<=to)(ja:to<=1000)
  (P:List Cell->Prop) (hPs:∀own k,kQ n own->k<n.rules.length->P own->P (oN n l c fr to own k)):∀f own,jE own<f->kQ n own->P own->kQ n (tr n l c fr to f own)/\P (tr n l c fr to f own)/\KT n l c fr to (tr n l c fr to f own)
 |0,own,h,_,_=>by omega
 |f+1,own,h,ho,hp=>by
  obtain⟨h1,h2⟩:=sF hn hl hc ho qb ja n.rules.length (Zae _);have hpw:∀y,y<=n.rules.length->P (dt n l c fr to own y):=by
   intro y;induction y with
   |zero=>intro _;exact hp
   |succ y ih=>intro hy;rw[nB];exact hPs _ _ (sF hn hl hc ho qb ja y (by omega)).1 (by omega) (ih (by omega))
  unfold tr;split
  ·rename_i e;rcases h2 with⟨_,g⟩|h2
   ·exact⟨ho,hp,g⟩
   ·rw[e]at h2;omega
  ·rename_i e;rcases h2 with⟨g,_⟩|h2
   ·exact absurd g e
   ·exact Ih hn hl hc qb ja P hPs f _ (by omega) h1 (hpw _ (Zae _))
theorem Bt{n:aG}{l:aL}{c:bW}{fr to:Nat}(hn:oX n)(hl:vH l)(hc:Cy c)(qb:fr<=to)(ja:to<=1000)
  (P:List Cell->Prop) (hP0:P (Cz n)) (hPs:∀own k,kQ n own->k<n.rules.length->P own->P (oN n l c fr to own k)):kQ n (jk n l c fr to)/\P (jk n l c fr to)/\KT n l c fr to (jk n l c fr to):=
 Ih hn hl hc qb ja P hPs _ _ (by omega) (No hn) hP0
theorem t24(n:aG)(l:aL)(c:bW)(fr to:Nat)(hn:oX n)(hl:vH l)(hc:Cy c)(qb:fr<=to)(ja:to<=1000):lK Tryz.prog 24 [n.enc,l.enc,c.enc,ti fr,ti to] 57 4 (aM (jk n l c fr to)):=by
 obtain⟨R,hR⟩:∃R,jk n l c fr to=R:=⟨_,rfl⟩;rw[hR];obtain⟨nt,nn,ns,rules⟩:=n;obtain⟨ls,aD,fin⟩:=l;obtain⟨cn,cs,cl⟩:=c;have ay:=okSp;have h00:=No hn;have zR:=λ(own:List Cell) (ho:kQ ⟨nt,nn,ns,rules⟩ own)=>sF hn hl hc ho qb ja;have hss:=λ(own:List Cell) (ho:kQ ⟨nt,nn,ns,rules⟩ own) (k:Nat) (hk:k<rules.length)=>Bq hn hl hc ho (k:=k) hk qb ja;have PO:rules.length<=600:=hn.2.2.1;have PZ:1<=nn:=hn.1;have O5:nn<=1000:=hn.2.1;refine c24.okF (by simp) (aK ?_);simp[aG.enc,aL.enc,bW.enc];refine aa.ab ay fw [3,4,5,6,7] ?_;simp[aaN];refine aa.le (Le.aC (o:=[]) (l:=[(3,.v (ti fr)),(4,.v (ti to)),(5,.v (.box [ti nt,ti nn,ti ns,.sl (aR rules)])),(6,.v (.box [ti ls,.sl (ba aD),.sl (aB fin)])),(7,.v (.box [ti cn,ti cs,.sl (aM cl)]))]) (nxt':=1200) ?_ ?_ ?_ ?_) ?_;iterate 4(·simp)
 refine aa.ab ay fw [3,4,5,6,7,11] ?_;simp[aaO];refine aa.le (Le.aC (o:=[]) (l:=[(3,.v (ti fr)),(4,.v (ti to)),(5,.v (.box [ti nt,ti nn,ti ns,.sl (aR rules)])),(6,.v (.box [ti ls,.sl (ba aD),.sl (aB fin)])),(7,.v (.box [ti cn,ti cs,.sl (aM cl)])),(11,.aH)]) (nxt':=1400) ?_ ?_ ?_ ?_) ?_;iterate 4(·simp)
 refine aa.le (Le.l9 (k:=11) 57 (sz:=4) (by omega) (by simp)) ?_;rw[iu];refine aa.seq ?_;refine aa.ab ay fw [3,4,5,6,7,11,12] ?_;simp[aaP];refine aa.block ?_;refine aa.loop (λy:Nat=>⟨DM.look [(3,.v (ti fr)),(4,.v (ti to)),(5,.v (.box [ti nt,ti nn,ti ns,.sl (aR rules)])),(6,.v (.box [ti ls,.sl (ba aD),.sl (aB fin)])),(7,.v (.box [ti cn,ti cs,.sl (aM cl)])),(11,.bk 1400 0),(12,.v (ti y))],cC [(1400,.arr 0 57 4 (aM (List.replicate y fc)))],1600,1000,[]⟩)
  (λy=>(y:Int)<=nn) (λy=>nn.toNat-y) 0 (Le.aC ?_ ?_ ?_ ?_) (by omega) (λy hy=>?_)
 iterate 4(·simp)
 refine aa.seq ?_;refine aa.ab ay fw [3,4,5,6,7,11,12,19] ?_;simp[aaQ];refine aa.cond rfl (λbM=>?_) (λbM=>?_)
 ·have bM:(y:Int)<nn:=by simpa using bM
  refine aa.skip ?_;simp;refine aa.seq ?_;refine aa.block ?_;refine aa.dm ay fw [3,4,5,6,7,11,12] ?_;simp[aaR,cH,chunk];refine⟨by omega, ?_⟩;refine aa.dm ay fw [3,4,5,6,7,11,12] ?_;simp[aaS];rw[au (x:=(y:Int)+1) (by omega)];refine⟨y+1,Le.aC ?_ ?_ ?_ ?_,by omega,by omega⟩
  ·simp
  ·simp
  ·simp[ZbR,aM,fc,Cell.enc]
  ·simp
 ·have fl:y=nn.toNat:=by simp at bM;omega
  subst fl;refine aa.exit ?_;simp;refine aa.seq ?_;refine aa.ab ay fw [3,4,5,6,7,11,13] ?_;simp[aaT];refine aa.block ?_;refine aa.loop (λz:SM=>⟨DM.look [(3,.v (ti fr)),(4,.v (ti to)),(5,.v (.box [ti nt,ti nn,ti ns,.sl (aR rules)])),(6,.v (.box [ti ls,.sl (ba aD),.sl (aB fin)])),(7,.v (.box [ti cn,ti cs,.sl (aM cl)])),(11,.bk 1400 0),(13,.v (.bool z.more))],cC [(1400,.arr 0 57 4 (aM z.own))],3000,1000,[]⟩)
   (λz=>kQ ⟨nt,nn,ns,rules⟩ z.own/\(z.more=true->∃f,jE z.own<f/\tr ⟨nt,nn,ns,rules⟩ ⟨ls,aD,fin⟩ ⟨cn,cs,cl⟩ fr to f z.own=R)/\(z.more=false->z.own=R)) (λz=>2*jE z.own+(if z.more then 1 else 0)) ⟨Cz ⟨nt,nn,ns,rules⟩,true⟩ (Le.aC ?_ ?_ ?_ ?_) (⟨h00,λ_=>⟨_,ZbV _,hR⟩,λh=>by cases h⟩) (λz hy=>?_)
  ·simp
  ·simp
  ·simp[Cz]
  ·simp
  obtain⟨own,more⟩:=z;obtain⟨hz1,Xt,XK⟩:=hy;simp only at hz1 Xt XK⊢;refine aa.seq ?_;refine aa.ab ay fw [3,4,5,6,7,11,26] ?_;simp[aaU];refine aa.cond rfl (λhm=>?_) (λhm=>?_)
  ·have hm:more=true:=by simpa using hm
   subst hm;obtain⟨f,hf1,XL⟩:=Xt rfl;refine aa.skip ?_;simp;refine aa.block ?_;refine aa.ab ay fw [3,4,5,6,7,11,13] ?_;simp[aaV];refine aa.ab ay fw [3,4,5,6,7,11,13,14] ?_;simp[aaW];refine aa.block ?_;refine aa.loop (λy:Nat=>⟨DM.look [(3,.v (ti fr)),(4,.v (ti to)),(5,.v (.box [ti nt,ti nn,ti ns,.sl (aR rules)])),(6,.v (.box [ti ls,.sl (ba aD),.sl (aB fin)])),(7,.v (.box [ti cn,ti cs,.sl (aM cl)])),(11,.bk 1400 0),(13,.v (.bool (decide (dt ⟨nt,nn,ns,rules⟩ ⟨ls,aD,fin⟩ ⟨cn,cs,cl⟩ fr to own y≠own)))),(14,.v (ti y))],cC [(1400,.arr 0 57 4 (aM (dt ⟨nt,nn,ns,rules⟩ ⟨ls,aD,fin⟩ ⟨cn,cs,cl⟩ fr to own y)))],4000,1000,[]⟩)
    (λy=>y<=rules.length) (λy=>rules.length-y) 0 (Le.aC ?_ ?_ ?_ ?_) (by simp) (λy WC=>?_)
   ·simp
   ·simp[dt]
   ·simp[dt]
   ·simp[dt]
   obtain⟨O,hO⟩:∃O,dt ⟨nt,nn,ns,rules⟩ ⟨ls,aD,fin⟩ ⟨cn,cs,cl⟩ fr to own y=O:=⟨_,rfl⟩;obtain⟨pw,ME⟩:=zR own hz1 y WC;rw[hO]at pw ME;obtain⟨m1,wA⟩:∃m1:Bool,decide (O≠own)=m1:=⟨_,rfl⟩;rw[hO,wA];refine aa.seq ?_;refine aa.ab ay fw [3,4,5,6,7,11,13,14,31] ?_;simp[R5];refine aa.cond rfl (λbM=>?_) (λbM=>?_)
   ·have bM:y<rules.length:=by simpa using bM
    refine aa.skip ?_;simp;refine aa.seq ?_;refine aa.block ?_;obtain⟨r,hr⟩:∃r,rules.getD y default=r:=⟨_,rfl⟩;have jV:ug ⟨nt,nn,ns,rules⟩ r:=hn.2.2.2 r (by rw[<-hr];exact bw bM);have rr:=fT bM;rw[hr]at rr;obtain⟨⟨ic,iz,ir,ig⟩,hI⟩:∃q,dK ⟨nt,nn,ns,rules⟩ ⟨ls,aD,fin⟩ ⟨cn,cs,cl⟩ O fr to y=q:=⟨_,rfl⟩;refine aa.ab ay fw [3,4,5,6,7,11,13,14,15] ?_;simp[R6,and_assoc,hn,hl,hc,pw.ok,hI];refine⟨by omega,by omega,by omega, ?_⟩;refine aa.le (Le.aC (o:=[(1400,.arr 0 57 4 (aM O))]) (l:=[(3,.v (ti fr)),(4,.v (ti to)),(5,.v (.box [ti nt,ti nn,ti ns,.sl (aR rules)])),(6,.v (.box [ti ls,.sl (ba aD),.sl (aB fin)])),(7,.v (.box [ti cn,ti cs,.sl (aM cl)])),(11,.bk 1400 0),(13,.v (.bool m1)),(14,.v (ti y)),(15,.v (.box [ti ic,ti iz,ti ir,ti ig]))]) (nxt':=4400) ?_ ?_ ?_ ?_) ?_;iterate 4(·simp)
    obtain⟨rk,rh,ra,rb,rp,rg⟩:=r;obtain⟨q1,q2,q3,q4,q5⟩:=jV;simp only at q1 q2;obtain⟨rh,rfl⟩:=Zad q1;have KX:rh<O.length:=by have:=pw.1;simp only at this;omega
    have rx:=fU KX;obtain⟨⟨xc,xs,xr,xg⟩,hx⟩:∃x,O.getD rh default=x:=⟨_,rfl⟩;rw[hx]at rx;obtain⟨c1,bb⟩:∃c1:Bool,decide ((⟨ic,iz,ir,ig⟩:Cell)≠⟨xc,xs,xr,xg⟩)=c1:=⟨_,rfl⟩;refine aa.bY ay fw [(3,.v (ti fr)),(4,.v (ti to)),(5,.v (.box [ti nt,ti nn,ti ns,.sl (aR rules)])),(6,.v (.box [ti ls,.sl (ba aD),.sl (aB fin)])),(7,.v (.box [ti cn,ti cs,.sl (aM cl)])),(11,.bk 1400 0),(13,.v (.bool m1)),(14,.v (ti y)),(15,.v (.box [ti ic,ti iz,ti ir,ti ig])),(52,.v (.bool c1))] ?_ ?_
    ·simp[R7,bM,rr,bD.enc,KX,rx,Cell.enc];simp at bb;exact bb
    refine aa.cond rfl (λh5=>?_) (λh5=>?_)
    ·rw[h5]at bb;have bb:=of_decide_eq_true bb;have lG:oN ⟨nt,nn,ns,rules⟩ ⟨ls,aD,fin⟩ ⟨cn,cs,cl⟩ fr to O y=O.set rh ⟨ic,iz,ir,ig⟩:=by unfold oN;simp only[hI,hr,Zak]
     have yL:dt ⟨nt,nn,ns,rules⟩ ⟨ls,aD,fin⟩ ⟨cn,cs,cl⟩ fr to own (y+1)=O.set rh ⟨ic,iz,ir,ig⟩:=by rw[nB,hO,lG]
     have bG:¬dt ⟨nt,nn,ns,rules⟩ ⟨ls,aD,fin⟩ ⟨cn,cs,cl⟩ fr to own (y+1)=own:=by
      intro e;have h4:=(hss O pw y bM).2 (by simp only[hI,hr,Zak,hx];exact bb);rw[lG,<-yL,e]at h4;rcases ME with h|h
      ·rw[h.1]at h4;omega
      ·omega
     refine aa.dm ay fw [3,4,5,6,7,11,13,14] ?_;simp[R8,bM,rr,bD.enc,KX,rx,Cell.enc];refine aa.dm ay fw [3,4,5,6,7,11,13,14] ?_;simp[Kk];rw[au (x:=(y:Int)+1) (by omega)];refine⟨y+1,Le.aC ?_ ?_ ?_ ?_,by omega,by omega⟩
     ·simp
     ·simp
     ·simp[yL,pN,Cell.enc]
     ·simp;simpa using bG
    ·rw[h5]at bb;have bb:=Classical.not_not.1 (of_decide_eq_false bb);have yL:dt ⟨nt,nn,ns,rules⟩ ⟨ls,aD,fin⟩ ⟨cn,cs,cl⟩ fr to own (y+1)=O:=by rw[nB,hO];unfold oN;simp only[hI,hr,Zak];exact Br (by rw[hx];exact bb)
     have bG:=wA;rw[<-yL]at bG;refine aa.skip ?_;simp;refine aa.dm ay fw [3,4,5,6,7,11,13,14] ?_;simp[Kk];rw[au (x:=(y:Int)+1) (by omega)];refine⟨y+1,Le.aC ?_ ?_ ?_ ?_,by omega,by omega⟩
     ·simp
     ·simp
     ·simp[yL,pN,Cell.enc]
     ·simp;simpa using bG
   ·have wT:y=rules.length:=by simp at bM;omega
    subst wT;have CZ:=O4 ((zR own hz1 _ (Zae _)).2.imp And.left id) hf1 XL;simp only[hO]at CZ;have hdec:2*jE O+(if m1 then 1 else 0)<2*jE own+1:=by
     by_cases e:O=own
     ·have Eg:m1=false:=by rw[<-wA];simp[e]
      subst Eg;rw[e];simp
     ·have:=(CZ.1 e).1;cases m1<;>simp<;>omega
    refine aa.exit ?_;simp;refine⟨⟨O,m1⟩,Le.aC ?_ ?_ ?_ ?_,⟨pw,λh=>(CZ.1 (of_decide_eq_true (wA.trans h))).2,λh=>by have e:=Classical.not_not.1 (of_decide_eq_false (wA.trans h));simp only;rw[e];exact CZ.2 e⟩,by simpa using hdec⟩;iterate 3(·simp)
    ·simp
  ·have hm:more=false:=by simpa using hm
   subst hm;have XK:=XK rfl;subst XK;refine aa.exit ?_;simp;refine aa.ab ay fw [10] ?_;simp[R9];refine aa.ret ?_;exact .inr ⟨1400,0,by simp,by simp⟩
theorem vS(l:List Cell):gj.gH (aM l).flatten=true:=by
 induction l with
 |nil=>rfl
 |cons x l ih=>simpa [aM,Cell.enc,gj.gH,gj]using ih
theorem Bu{st:Int}{f k:Nat}(h:(k:Int)<=st)(hf:f<=k):pre st f<=pre st k:=by
 induction k with
 |zero=>
   obtain rfl:f=0:=by omega
   omega
 |succ k ih=>
  by_cases e:f=k+1
  ·subst e;omega
  ·have:=ih (by omega) (by omega);simp only[pre];omega
theorem Fc(st:Int):∀n:Nat,2*pre st n=n*(2*st-n+1)
 |0=>by simp[pre]
 |n+1=>by
  have:=Fc st n;simp only[pre];have e:2*(pre st n+st-n)=2*pre st n+2*st-2*n:=by omega
  rw[e,this]
  push_cast
  grind
theorem mo{nn st:Int}(h:0<=st):dQ nn st=nn*pre st st.toNat:=by
 unfold dQ;have h2:=Fc st st.toNat;rw[show((st.toNat:Nat):Int)=st by omega]at h2;have e:nn*st*(st+1)=2*(nn*pre st st.toNat):=by grind
 rw[e];omega
theorem vO{nn st:Int}{f t:Nat}(h1:0<nn)(h3:(t:Int)<st)(h4:f<=t){i:Int}(hi:i<nn):cK nn st f t+i<dQ nn st:=by
 rw[mo (by omega)];have h5:=Bu (st:=st) (f:=f+1) (k:=st.toNat) (by omega) (by omega);simp only[pre]at h5;have h6:(pre st f+t-f+1)*nn<=pre st st.toNat*nn:=ZbZ (by omega) (by omega);unfold cK;rw[Int.mul_comm nn];have:(pre st f+t-f+1)*nn=(pre st f+t-f)*nn+nn:=by grind
 omega
def ma(cells own:List Cell)(at':Nat)(y:Nat):List Cell:=(List.range y).foldl (λcs i=>cs.set (at'+i) (own.getD i default)) cells
theorem mn(cells own:List Cell)(at' y:Nat):ma cells own at' (y+1)=(ma cells own at' y).set (at'+y) (own.getD y default):=by simp[ma,ZaE,Zat]
@[simp] theorem vM(cells own:List Cell)(at' y:Nat):(ma cells own at' y).length=cells.length:=by
 induction y with
 |zero=>rfl
 |succ y ih=>rw[mn,ZcN,ih]
theorem T5{cells own:List Cell}{at' y:Nat}{x:Cell}(h:x∈ma cells own at' y)(hy:y<=own.length):x∈cells\/x∈own:=by
 induction y with
 |zero=>exact .inl h
 |succ y ih=>
  rw[mn]at h;rcases Za0 h with h|rfl
  ·exact ih h (by omega)
  ·exact .inr (bw (by omega))
def rN(n:aG)(l:aL)(len:Nat)(cells:List Cell)(f:Nat):List Cell:=
 ma cells (jk n l ⟨n.an,l.aP,cells⟩ f ((f:Int)+len)) (cK n.an l.aP f (f+len)).toNat n.an.toNat
def H9(n:aG)(l:aL)(cells:List Cell)(len:Nat):List Cell:=(List.range (l.aP.toNat-len)).foldl (rN n l len) cells
def jn(n:aG)(l:aL):List Cell:=(List.range l.aP.toNat).foldl (H9 n l) (List.replicate (dQ n.an l.aP).toNat ⟨0,0,0,0⟩)
def cD(n:aG)(l:aL):bW:=⟨n.an,l.aP,jn n l⟩
abbrev s23:DM.Spec:=cy (λts=>∃n s:Int,ts=[ti n,ti s]/\0<=n/\n<=1000000/\0<=s/\s<=1000000) (fun|[.int _ n,.int _ s]=>ti (dQ n s)|_=>.bool false) true
abbrev s24:DM.Spec:=yw (λts=>∃nt nn ns rules ls aD fin cn cs cl,∃fr to:Int,ts=[.agg [ti nt,ti nn,ti ns,.sl (aR rules)],.agg [ti ls,.sl (ba aD),.sl (aB fin)],.agg [ti cn,ti cs,.sl (aM cl)],ti fr,ti to]/\
  oX ⟨nt,nn,ns,rules⟩/\vH ⟨ls,aD,fin⟩/\Cy ⟨cn,cs,cl⟩/\0<=fr/\fr<=to/\to<=1000)
 (fun|[n,l,c,.int _ fr,.int _ to]=>aM (jk (nS n) (ud l) (pI c) fr to)|_=>[]) 57 4
theorem okB:aw Tryz.prog (aX [(24,s24),(23,s23),(25,s25)]):=by
 refine aw.QZ (aw.cons (aw.cons aw.nil ?_) ?_) ?_
 ·rintro ts ⟨n,st,f,t,rfl,h1,h2,h3,h4,h5,h6,h7⟩;obtain⟨f,rfl⟩:=Zad h4;obtain⟨t,rfl⟩:=Zad (a:=t) (by omega);exact⟨by simpa using t25 n st f t h1 h2 h3 h5 (by omega) (by omega),λ_=>rfl⟩
 ·rintro ts ⟨n,s,rfl,h1,h2,h3,h4⟩;exact⟨by simpa using t23 n s h1 h2 h3 h4,λ_=>rfl⟩
 ·rintro ts ⟨nt,nn,ns,rules,ls,aD,fin,cn,cs,cl,fr,to,rfl,h1,h2,h3,h4,h5,h6⟩;obtain⟨fr,rfl⟩:=Zad h4;obtain⟨to,rfl⟩:=Zad (a:=to) (by omega);exact⟨by simpa [aG.enc,aL.enc,bW.enc]using t24 ⟨nt,nn,ns,rules⟩ ⟨ls,aD,fin⟩ ⟨cn,cs,cl⟩ fr to h1 h2 h3 (by omega) (by omega),vS _⟩
theorem vN{n:aG}{l:aL}{c:bW}{fr to:Nat}(hn:oX n)(hl:vH l)(hc:Cy c)(qb:fr<=to)(ja:to<=1000):kQ n (jk n l c fr to):=
 (Bt hn hl hc qb ja (λ_=>True) trivial λ_ _ _ _ _=>trivial).1
def fK(n:aG)(l:aL)(cells:List Cell):Prop:=(cells.length:Int)=dQ n.an l.aP/\∀x∈cells,kO x.val
theorem fK.ok{n:aG}{l:aL}{cells:List Cell}(hn:oX n)(hl:vH l)(h:fK n l cells):Cy ⟨n.an,l.aP,cells⟩:=by
 have h1:=hn.1;have h2:=hn.2.1;have h3:=hl.1;have h4:=hl.2.1;refine⟨by simp only;omega,h2,by simp only;omega,h4, ?_,h.2⟩;have:=mo (nn:=n.an) (st:=l.aP) (by omega);have hb:=(eD h4 l.aP.toNat (by omega));have:=cQ (a:=n.an) (A:=1000) (b:=pre l.aP l.aP.toNat) (B:=1000000) (by omega) (by omega) hb.1 (by omega);have:=h.1;simp only;omega
theorem fK.step{n:aG}{l:aL}{cells:List Cell}(hn:oX n)(hl:vH l)(h:fK n l cells){f len y:Nat}(qb:f+len<=1000)(hy:y<=n.an.toNat)(a:Nat):fK n l (ma cells (jk n l ⟨n.an,l.aP,cells⟩ f ((f:Int)+len)) a y):=by
 have ho:=vN hn hl (h.ok hn hl) (fr:=f) (to:=f+len) (by omega) qb;rw[show((f+len:Nat):Int)=(f:Int)+len by omega]at ho;refine⟨by rw[vM];exact h.1,λx hx=>?_⟩;rcases T5 hx (by have:=ho.1;omega)with hx|hx
 ·exact h.2 x hx
 ·exact(ho.2 x hx).1
theorem vP{n:aG}{l:aL}{cells:List Cell}(hn:oX n)(hl:vH l)(h:fK n l cells){len:Nat}:∀k,(k+len:Nat)<=1001->fK n l ((List.range k).foldl (rN n l len) cells)
 |0,_=>h
 |k+1,hk=>by
  rw[ZaE,Zat];exact(vP hn hl h k (by omega)).step hn hl (by omega) (Zae _) _
theorem T6{n:aG}{l:aL}(hn:oX n)(hl:vH l):fK n l (List.replicate (dQ n.an l.aP).toNat ⟨0,0,0,0⟩):=by
 have h4:=hl.2.1;have hb:=(eD h4 l.aP.toNat (by have:=hl.1;omega));have:=Zch (a:=n.an) (by have:=hn.1;omega) hb.1;have:=mo (nn:=n.an) (st:=l.aP) (by have:=hl.1;omega);refine⟨by rw[ZbC];omega,λx hx=>?_⟩;rw[ZbG hx];simp[kO]
theorem vI{n:aG}{l:aL}(hn:oX n)(hl:vH l):∀k:Nat,(k:Int)<=l.aP->fK n l ((List.range k).foldl (H9 n l) (List.replicate (dQ n.an l.aP).toNat ⟨0,0,0,0⟩)):=by
 intro k;induction k with
 |zero=>intro _;exact T6 hn hl
 |succ k ih=>
  intro hk;rw[ZaE,Zat];exact vP hn hl (ih (by omega)) _ (by have:=hl.2.1;omega)
theorem t11(n:aG)(l:aL)(hn:oX n)(hl:vH l):aU Tryz.prog 11 [n.enc,l.enc] (cD n l).enc:=by
 obtain⟨R,hR⟩:∃R,jn n l=R:=⟨_,rfl⟩;have xw:cD n l=⟨n.an,l.aP,R⟩:=by rw[<-hR];rfl
 rw[xw];unfold jn at hR;have h0:=T6 hn hl;have cS:=vI hn hl;have lX:=λcells (h:fK n l cells) len=>vP hn hl h (len:=len);have lG:=λcells (h:fK n l cells) f len y=>h.step hn hl (f:=f) (len:=len) (y:=y);have aF:=λcells (h:fK n l cells)=>h.ok hn hl;obtain⟨nt,nn,ns,rules⟩:=n;obtain⟨ls,aD,fin⟩:=l;have ay:=okB;have PZ:1<=nn:=hn.1;have O5:nn<=1000:=hn.2.1;have wC:1<=ls:=hl.1;have qj:ls<=1000:=hl.2.1;simp only at hR h0 cS lX lG aF;have uD:0<=dQ nn ls/\dQ nn ls<=1000000000:=by
  have:=(aF _ h0).2.2.2.2.1;have:=h0.1;simp only at*
  have:=mo (nn:=nn) (st:=ls) (by omega);have hb:=(eD qj ls.toNat (by omega));have:=cQ (a:=nn) (A:=1000) (b:=pre ls ls.toNat) (B:=1000000) (by omega) (by omega) hb.1 (by omega);omega
 have ay:=okB;refine c11.ok (by simp) (aK ?_);simp[aG.enc,aL.enc,bW.enc];refine aa.ab ay fw [2,3,4] ?_;simp[aaX];refine aa.le (Le.aC (o:=[(1005,.box [.v (ti 0),.v (ti 0),.aH])]) (l:=[(2,.v (.box [ti nt,ti nn,ti ns,.sl (aR rules)])),(3,.v (.box [ti ls,.sl (ba aD),.sl (aB fin)])),(4,.ptr 1005 0)]) (nxt':=1200) ?_ ?_ ?_ ?_) ?_;iterate 4(·simp)
 refine aa.ab ay fw [2,3,4,5] ?_;simp[aaY,and_assoc,cH];repeat (refine⟨by omega, ?_⟩)
 refine aa.le (Le.aC (o:=[(1005,.box [.v (ti 0),.v (ti 0),.aH]),(1206,.box [.v (ti nn),.v (ti ls),.bk 1221 0]),(1221,.arr 0 57 4 (aM ((List.replicate (dQ nn ls).toNat ⟨0,0,0,0⟩))))]) (l:=[(2,.v (.box [ti nt,ti nn,ti ns,.sl (aR rules)])),(3,.v (.box [ti ls,.sl (ba aD),.sl (aB fin)])),(4,.ptr 1005 0),(5,.ptr 1206 0)]) (nxt':=1400) ?_ ?_ ?_ ?_) ?_
 ·simp
 ·simp
 ·simp[aM,Cell.enc]
 ·simp
 refine aa.seq ?_;refine aa.ab ay fw [2,3,4,5,6] ?_;simp[aaZ];refine aa.block ?_;refine aa.loop (λa:Nat=>⟨DM.look [(2,.v (.box [ti nt,ti nn,ti ns,.sl (aR rules)])),(3,.v (.box [ti ls,.sl (ba aD),.sl (aB fin)])),(4,.ptr 1005 0),(5,.ptr 1206 0),(6,.v (ti a))],cC [(1005,.box [.v (ti 0),.v (ti 0),.aH]),(1206,.box [.v (ti nn),.v (ti ls),.bk 1221 0]),(1221,.arr 0 57 4 (aM ((List.range a).foldl (H9 ⟨nt,nn,ns,rules⟩ ⟨ls,aD,fin⟩) (List.replicate (dQ nn ls).toNat ⟨0,0,0,0⟩))))],2000,1000,[]⟩)
  (λa=>(a:Int)<=ls) (λa=>ls.toNat-a) 0 (Le.aC ?_ ?_ ?_ ?_) (by omega) (λa hy=>?_)
 iterate 4(·simp)
 obtain⟨A,hA⟩:∃A,(List.range a).foldl (H9 ⟨nt,nn,ns,rules⟩ ⟨ls,aD,fin⟩) (List.replicate (dQ nn ls).toNat ⟨0,0,0,0⟩)=A:=⟨_,rfl⟩;have hA1:=cS a hy;rw[hA]at hA1;rw[hA];refine aa.seq ?_;refine aa.ab ay fw [2,3,4,5,6,25] ?_;simp[aa0];refine aa.cond rfl (λbM=>?_) (λbM=>?_)
 ·have bM:(a:Int)<ls:=by simpa using bM
  refine aa.skip ?_;simp;refine aa.seq ?_;refine aa.block ?_;refine aa.ab ay fw [2,3,4,5,6,7] ?_;simp[aa1];refine aa.block ?_;refine aa.loop (λb:Nat=>⟨DM.look [(2,.v (.box [ti nt,ti nn,ti ns,.sl (aR rules)])),(3,.v (.box [ti ls,.sl (ba aD),.sl (aB fin)])),(4,.ptr 1005 0),(5,.ptr 1206 0),(6,.v (ti a)),(7,.v (ti b))],cC [(1005,.box [.v (ti 0),.v (ti 0),.aH]),(1206,.box [.v (ti nn),.v (ti ls),.bk 1221 0]),(1221,.arr 0 57 4 (aM ((List.range b).foldl (rN ⟨nt,nn,ns,rules⟩ ⟨ls,aD,fin⟩ a) A)))],3000,1000,[]⟩)
   (λb=>(b:Int)+a<=ls) (λb=>ls.toNat-a-b) 0 (Le.aC ?_ ?_ ?_ ?_) (by simp;omega) (λb hb=>?_)
  iterate 4(·simp)
  obtain⟨B,hB⟩:∃B,(List.range b).foldl (rN ⟨nt,nn,ns,rules⟩ ⟨ls,aD,fin⟩ a) A=B:=⟨_,rfl⟩;have hB1:=lX A hA1 a b (by omega);rw[hB]at hB1;rw[hB];refine aa.seq ?_;refine aa.ab ay fw [2,3,4,5,6,7,33] ?_;simp[aa2,au (x:=(b:Int)+a) (by omega)];refine aa.cond rfl (λXM=>?_) (λXM=>?_)
  ·have XM:(b:Int)+a<ls:=by simpa using XM
   refine aa.skip ?_;simp;refine aa.seq ?_;refine aa.block ?_;have w1:IntKind.i64.wrap ((b:Int)+a)=(b:Int)+a:=au (by omega);obtain⟨own,eX⟩:∃q,jk ⟨nt,nn,ns,rules⟩ ⟨ls,aD,fin⟩ ⟨nn,ls,B⟩ b ((b:Int)+a)=q:=⟨_,rfl⟩;have hokB:=aF B hB1;have XN:=vN hn hl hokB (fr:=b) (to:=b+a) (by omega) (by omega);rw[show((b+a:Nat):Int)=(b:Int)+a by omega,eX]at XN;have hol:(own.length:Int)=nn:=XN.1;refine aa.iG ay fw (rs:=Kl) (.inr ⟨_,rfl⟩) (by kernel_rfl) [2,3,4,5,6,7,8] ?_;simp[Kl,and_assoc,w1,hn,hl,hokB,eX];repeat (refine⟨by omega, ?_⟩)
   refine aa.le (Le.aC (o:=[(1005,.box [.v (ti 0),.v (ti 0),.aH]),(1206,.box [.v (ti nn),.v (ti ls),.bk 1221 0]),(1221,.arr 0 57 4 (aM (B)))]) (l:=[(2,.v (.box [ti nt,ti nn,ti ns,.sl (aR rules)])),(3,.v (.box [ti ls,.sl (ba aD),.sl (aB fin)])),(4,.ptr 1005 0),(5,.ptr 1206 0),(6,.v (ti a)),(7,.v (ti b)),(8,.v (.sl (aM own)))]) (nxt':=3400) ?_ ?_ ?_ ?_) ?_;iterate 4(·simp)
   obtain⟨mm,dH⟩:∃q,cK nn ls b (b+a)=q:=⟨_,rfl⟩;have Ni:=j6 (n:=nn) (st:=ls) (f:=b) (t:=b+a) (by omega) O5 qj (by omega) (by omega) (by omega);have hix:=λ(i:Int) (hi:i<nn)=>vO (nn:=nn) (st:=ls) (f:=b) (t:=b+a) (by omega) (by omega) (by omega) hi;rw[dH]at Ni hix;obtain⟨mm,rfl⟩:=Zad Ni.1;have e1:((b:Int)+a).toNat=b+a:=by omega
   have T7:rN ⟨nt,nn,ns,rules⟩ ⟨ls,aD,fin⟩ a B b=ma B own mm own.length:=by unfold rN;simp only[eX,dH,Zak];rw[show nn.toNat=own.length by omega]
   refine aa.ab ay fw [2,3,4,5,6,7,8,9] ?_;simp[aa3,and_assoc,w1,e1,dH];repeat (refine⟨by omega, ?_⟩)
   refine aa.ab ay fw [2,3,4,5,6,7,8,9,10] ?_;simp[aa4];refine aa.block ?_;refine aa.loop (λy:Nat=>⟨DM.look [(2,.v (.box [ti nt,ti nn,ti ns,.sl (aR rules)])),(3,.v (.box [ti ls,.sl (ba aD),.sl (aB fin)])),(4,.ptr 1005 0),(5,.ptr 1206 0),(6,.v (ti a)),(7,.v (ti b)),(8,.v (.sl (aM own))),(9,.v (ti mm)),(10,.v (ti y))],cC [(1005,.box [.v (ti 0),.v (ti 0),.aH]),(1206,.box [.v (ti nn),.v (ti ls),.bk 1221 0]),(1221,.arr 0 57 4 (aM (ma B own mm y)))],4000,1000,[]⟩)
    (λy=>y<=own.length) (λy=>own.length-y) 0 (Le.aC ?_ ?_ ?_ ?_) (by simp) (λy WC=>?_)
   ·simp
   ·simp
   ·simp[ma]
   ·simp
   refine aa.seq ?_;refine aa.ab ay fw [2,3,4,5,6,7,8,9,10,56] ?_;simp[aa5];refine aa.cond rfl (λh9=>?_) (λh9=>?_)
   ·have h9:y<own.length:=by simpa using h9
    refine aa.skip ?_;simp;refine aa.seq ?_;refine aa.block ?_;have ro:=fU h9;obtain⟨x,hx⟩:∃x,own.getD y default=x:=⟨_,rfl⟩;rw[hx]at ro;have MH:(B.length:Int)=dQ nn ls:=hB1.1;have cW:=hix y (by omega);have Fe:mm+y<B.length:=by omega
    have rz:=fU (l:=ma B own mm y) (y:=mm+y) (by simpa using Fe);rw[show((mm+y:Nat):Int)=(mm:Int)+y by omega]at rz;have e2:((mm:Int)+y).toNat=mm+y:=by omega
    have w2:IntKind.i64.wrap ((mm:Int)+y)=((mm+y:Nat):Int):=by rw[au (by omega)];omega
    refine aa.dm ay fw [2,3,4,5,6,7,8,9,10] ?_;simp[Sa,w2,h9,ro,Cell.enc,Fe,rz,e2];repeat (refine⟨by omega, ?_⟩)
    refine aa.dm ay fw [2,3,4,5,6,7,8,9,10] ?_;simp[Sb];rw[au (x:=(y:Int)+1) (by omega)];refine⟨y+1,Le.aC ?_ ?_ ?_ ?_,by omega,by omega⟩
    ·simp
    ·simp
    ·simp[mn,pN,-List.getD_eq_getElem?_getD,hx,Cell.enc]
    ·simp
   ·have wT:y=own.length:=by simp at h9;omega
    subst wT;refine aa.exit ?_;simp;refine aa.dm ay fw [2,3,4,5,6,7] ?_;simp[Sc];rw[au (x:=(b:Int)+1) (by omega)];refine⟨b+1,Le.aC ?_ ?_ ?_ ?_,by omega,by omega⟩
    ·simp
    ·simp
    ·simp[ZaE,Zat,hB,T7]
    ·simp
  ·have fl:b=ls.toNat-a:=by simp at XM;omega
   subst fl;refine aa.exit ?_;simp;refine aa.dm ay fw [2,3,4,5,6] ?_;simp[Sd];rw[au (x:=(a:Int)+1) (by omega)];refine⟨a+1,Le.aC ?_ ?_ ?_ ?_,by omega,by omega⟩
   ·simp
   ·simp
   ·simp[ZaE,Zat,hA,H9,hB]
   ·simp
 ·have fl:a=ls.toNat:=by simp at bM;omega
  subst fl;rw[hR]at hA;subst hA;refine aa.exit ?_;simp;refine aa.ab ay fw [4] ?_;simp[Se];refine aa.ret ?_;simp[Sf]
def nz(h f t cf co cn st:Int):Prop:=h<0\/f<0\/t<f\/t>=st\/cf<0\/co<0\/cn<0\/cn>60\/cf>(st-1)/2\/co>(st-1)/2-cf
instance(h f t cf co cn st:Int):Decidable (nz h f t cf co cn st):=by unfold nz;infer_instance
def Cv(t:Int):Int:=if t % 2=1 then(t-1)/2+2 else t/2
structure KR where
 (h f t:Int)
 ok:Bool
def fV(h f t cf co cn st:Int):KR:=
 if nz h f t cf co cn st then⟨0,0,0,false⟩else if Cv t<=cf then⟨h,f,t,true⟩else if f/2>=cf+co then⟨h,f+2*(cn-co),t+2*(cn-co),true⟩else⟨0,0,0,false⟩
def KR.enc(k:KR):T:=.eG [.agg [ti k.h,ti k.f,ti k.t],.bool k.ok]
theorem t41(t:Int)(h1:0<=t)(h2:t<=1000000):aU Tryz.prog 41 [ti t] (ti (Cv t)):=by
 obtain⟨R,hR⟩:∃R,Cv t=R:=⟨_,rfl⟩;rw[hR];unfold Cv at hR;have m1:IntKind.i64.wrap (t.tmod 2)=t % 2:=by rw[AD h1];exact au (by omega)
 have m2:IntKind.i64.wrap (t.tdiv 2)=t/2:=by rw[oK h1];exact au (by omega)
 have m3:IntKind.i64.wrap (t-1)=t-1:=au (by omega);have ay:=ej;refine c41.ok (by simp) (aK ?_);simp;refine aa.ab ay fw [0] ?_;simp[abi];refine aa.seq ?_;refine aa.ab ay fw [0,5] ?_;simp[abj];refine aa.cond rfl (λg=>?_) (λg=>?_)
 ·have g:t % 2=0:=by simpa [AD h1]using g
  rw[if_neg (by omega)]at hR;refine aa.ab ay fw [2] ?_;simp[abk,m2];refine aa.ret ?_;simp[Km,hR]
 ·have g:¬t % 2=0:=by simpa [AD h1]using g
  rw[if_pos (by omega)]at hR;have m4:IntKind.i64.wrap ((t-1).tdiv 2)=(t-1)/2:=by rw[oK (by omega)];exact au (by omega)
  have m5:IntKind.i64.wrap ((t-1)/2+2)=(t-1)/2+2:=au (by omega);refine aa.skip ?_;simp;refine aa.ab ay fw [2] ?_;simp[abl,m3,m4,m5];refine aa.ret ?_;simp[Km,hR]
abbrev s41:DM.Spec:=cy (λts=>∃t,ts=[ti t]/\0<=t/\t<=1000000) (fun|[.int _ t]=>ti (Cv t)|_=>.bool false) true
theorem ok41:aw Tryz.prog (aX [(41,s41)]):=by
 refine aw.cons aw.nil ?_;rintro ts ⟨t,rfl,h1,h2⟩;exact⟨t41 t h1 h2,λ_=>rfl⟩
theorem t18(h f t cf co cn st:Int)(hs:1<=st)(N8:st<=10000):aU Tryz.prog 18 [.agg [ti h,ti f,ti t],.agg [ti cf,ti co,ti cn],ti st] (fV h f t cf co cn st).enc:=by
 obtain⟨R,hR⟩:∃R,fV h f t cf co cn st=R:=⟨_,rfl⟩;rw[hR];unfold fV at hR;have w1:IntKind.i64.wrap (st-1)=st-1:=au (by omega);have w2:IntKind.i64.wrap ((st-1).tdiv 2)=(st-1)/2:=by rw[oK (by omega)];exact au (by omega)
 have ay:=ok41;refine c18.ok (by simp) (aK ?_);simp;refine aa.ab ay fw [2,3,4,6] ?_;simp[abm];refine aa.le (Le.aC (o:=[(1007,.box [.v (ti 0),.v (ti 0),.v (ti 0)])]) (l:=[(2,.v (ti st)),(3,.v (.box [ti h,ti f,ti t])),(4,.v (.box [ti cf,ti co,ti cn])),(6,.ptr 1007 0)]) (nxt':=1200) ?_ ?_ ?_ ?_) ?_;iterate 4(·simp)
 refine aa.seq ?_;obtain⟨c1,bb⟩:∃c1:Bool,decide (h<0\/f<0\/t<f\/t>=st\/cf<0\/co<0\/cn<0\/cn>60\/cf>(st-1)/2\/co>(st-1)/2-cf)=c1:=⟨_,rfl⟩;refine aa.bY ay fw [(3,.v (.box [ti h,ti f,ti t])),(4,.v (.box [ti cf,ti co,ti cn])),(6,.ptr 1007 0),(68,.v (.bool c1))] ?_ ?_
 ·by_cases q1:h<0
  ·have:c1=true:=by rw[<-bb];simp[q1]
   simp[p9,q1,this]
  ·skip
   by_cases q2:f<0
   ·have:c1=true:=by rw[<-bb];simp[q2]
    simp[p9,q1,q2,this]
   ·skip
    by_cases q3:t<f
    ·have:c1=true:=by rw[<-bb];simp[q3]
     simp[p9,q1,q2,q3,this]
    ·skip
     by_cases q4:t>=st
     ·have:c1=true:=by rw[<-bb];simp[q4]
      simp[p9,q1,q2,q3,q4,this]
     ·skip
      by_cases q5:cf<0
      ·have:c1=true:=by rw[<-bb];simp[q5]
       simp[p9,q1,q2,q3,q4,q5,this]
      ·skip
       by_cases q6:co<0
       ·have:c1=true:=by rw[<-bb];simp[q6]
        simp[p9,q1,q2,q3,q4,q5,q6,this]
       ·skip
        by_cases q7:cn<0
        ·have:c1=true:=by rw[<-bb];simp[q7]
         simp[p9,q1,q2,q3,q4,q5,q6,q7,this]
        ·skip
         by_cases q8:cn>60
         ·have:c1=true:=by rw[<-bb];simp[q8]
          simp[p9,q1,q2,q3,q4,q5,q6,q7,q8,this]
         ·skip
          by_cases q9:cf>(st-1)/2
          ·have:c1=true:=by rw[<-bb];simp[q9]
           simp[p9,q1,q2,q3,q4,q5,q6,q7,q8,q9,this,w1,w2]
          ·skip
           have w3:IntKind.i64.wrap ((st-1)/2-cf)=(st-1)/2-cf:=au (by omega);by_cases WA:co>(st-1)/2-cf
           ·have:c1=true:=by rw[<-bb];simp[WA]
            simp[p9,q1,q2,q3,q4,q5,q6,q7,q8,q9,WA,this,w1,w2,w3]
           ·skip
            have:c1=false:=by rw[<-bb];simp[q1,q2,q3,q4,q5,q6,q7,q8,q9,WA]
            simp[p9,q1,q2,q3,q4,q5,q6,q7,q8,q9,WA,this,w1,w2,w3]
 refine aa.cond rfl (λg1=>?_) (λg1=>?_)
 ·rw[g1]at bb;rw[if_pos (show nz h f t cf co cn st from of_decide_eq_true bb)]at hR;subst hR;refine aa.ab ay fw [6,7] ?_;simp[abn];refine aa.ret ?_;simp[A8,KR.enc]
 ·rw[g1]at bb;have bb:=of_decide_eq_false bb;rw[if_neg (show ¬nz h f t cf co cn st from bb)]at hR;have m6:IntKind.i64.wrap (f.tdiv 2)=f/2:=by rw[oK (by omega)];exact au (by omega)
  have m7:IntKind.i64.wrap (cf+co)=cf+co:=au (by omega);have m8:IntKind.i64.wrap (cn-co)=cn-co:=au (by omega);have m9:IntKind.i64.wrap (2*(cn-co))=2*(cn-co):=au (by omega);have m10:IntKind.i64.wrap (f+2*(cn-co))=f+2*(cn-co):=au (by omega);have m11:IntKind.i64.wrap (t+2*(cn-co))=t+2*(cn-co):=au (by omega);refine aa.skip ?_;simp;refine aa.seq ?_;refine aa.ab ay fw [3,4,6,75] ?_;simp[abo];repeat (refine⟨by omega, ?_⟩)
  refine aa.cond rfl (λg3=>?_) (λg3=>?_)
  ·rw[if_pos (by simpa using g3)]at hR;subst hR;refine aa.ab ay fw [6,7] ?_;simp[abp];refine aa.ret ?_;simp[A8,KR.enc]
  ·rw[if_neg (by simpa using g3)]at hR;refine aa.skip ?_;simp;refine aa.seq ?_;refine aa.ab ay fw [3,4,6,85] ?_;simp[abq,m6,m7];refine aa.cond rfl (λg4=>?_) (λg4=>?_)
   ·rw[if_pos (by simpa using g4)]at hR;subst hR;refine aa.ab ay fw [3,6,8] ?_;simp[abr,m8,m9];refine aa.ab ay fw [6,7] ?_;simp[abt,m10,m11];refine aa.ret ?_;simp[A8,KR.enc]
   ·rw[if_neg (by simpa using g4)]at hR;subst hR;refine aa.skip ?_;simp;refine aa.ab ay fw [6,7] ?_;simp[abu];refine aa.ret ?_;simp[A8,KR.enc]
structure Ask where
 n:aG
 x:Input
 (fr od:Int)
 new:List bC
def Ask.enc(z:Ask):T:=.agg [ti z.n.aW,ti z.n.an,ti z.n.start,.sl (aR z.n.rules),.sl (aV z.x.aj),.sl (aB z.x.insert),ti z.x.swap,ti z.fr,ti z.od,.sl (aV z.new)]
def cz(x:Input)(fr od:Nat)(new:List bC):Input:=⟨x.aj.take fr++new++x.aj.drop (fr+od),x.insert,x.swap⟩
theorem sC(l:List bC):∀r∈aV l,r.length=3:=by
 intro r hr;simp only[aV,Zal]at hr;obtain⟨c,_,rfl⟩:=hr;rfl
theorem E7(a b:List bC):aV (a++b)=aV a++aV b:=by simp[aV]
theorem KP(a:List bC)(n:Nat):(aV a).take n=aV (a.take n):=by simp[aV,List.map_take]
theorem KQ(a:List bC)(n:Nat):(aV a).drop n=aV (a.drop n):=by simp[aV,List.map_drop]
theorem t38(x:Input)(fr od:Nat)(new:List bC)(h1:fr<=x.aj.length)(h2:od<=x.aj.length-fr)(h3:x.aj.length<=1000000)(h4:new.length<=1000000):
  aU Tryz.prog 38 [x.enc,ti fr,ti od,.sl (aV new)] (cz x fr od new).enc:=by
 obtain⟨R,hR⟩:∃R,(cz x fr od new).aj=R:=⟨_,rfl⟩;have xw:cz x fr od new=⟨R,x.insert,x.swap⟩:=by rw[<-hR];rfl
 rw[xw];simp only[cz]at hR;obtain⟨ct,ins,sw⟩:=x;simp only at h1 h2 h3 hR;have w1:IntKind.i64.wrap ((fr:Int)+od)=(fr:Int)+od:=au (by omega);have e1:((fr:Int)+od).toNat=fr+od:=by omega
 obtain⟨A,hA⟩:∃A,ct.take fr=A:=⟨_,rfl⟩;obtain⟨B,hB⟩:∃B,ct.drop (fr+od)=B:=⟨_,rfl⟩;have hAl:A.length<=1000000:=by rw[<-hA];simp;omega
 have hBl:B.length<=1000000:=by rw[<-hB];simp;omega
 rw[hA,hB]at hR;subst hR;have Gt:=sC A;have xx:=sC B;have hrn:=sC new;have ay:=ej;refine c38.ok (by simp) (aK ?_);simp[Input.enc];refine aa.ab ay fw [1,2,3,4,8] ?_;simp[He];refine aa.le (Le.aC (o:=[(1009,.box [.aH,.aH,.v (ti 0)])]) (l:=[(1,.v (ti fr)),(2,.v (ti od)),(3,.v (.sl (aV new))),(4,.v (.box [.sl (aV ct),.sl (aB ins),ti sw])),(8,.ptr 1009 0)]) (nxt':=1200) ?_ ?_ ?_ ?_) ?_;iterate 4(·simp)
 refine aa.ab ay fw [1,2,3,4,8,9] ?_;simp[Dh];refine aa.le (Le.aC (o:=[(1009,.box [.aH,.aH,.v (ti 0)]),(1210,.box [.v (.sl (aV ct)),.v (.sl (aB ins)),.v (ti sw)])]) (l:=[(1,.v (ti fr)),(2,.v (ti od)),(3,.v (.sl (aV new))),(4,.v (.box [.sl (aV ct),.sl (aB ins),ti sw])),(8,.ptr 1009 0),(9,.ptr 1210 0)]) (nxt':=1400) ?_ ?_ ?_ ?_) ?_;iterate 4(·simp)
 refine aa.iG ay fw (rs:=fm Sg [none,none,some [],none,some [],some [],none,some [1417],none,some [],none,none,none,some [],some [1417],none,some [1210,1417]]) (.inl rfl) (by kernel_rfl) [8,9] ?_;simp[Sg,fm,b8,bm,names,w1,e1,cH,KP,KQ,hA,hB,h1];have J9:=sC ct;refine⟨J9,⟨Gt,by omega⟩,⟨hrn,by omega⟩,⟨by omega,by omega,J9⟩,⟨xx,by omega⟩, ?_⟩;refine aa.ab ay fw [8] ?_;simp[aa6];refine aa.ret ?_;simp[A6,E7]
abbrev s38:DM.Spec:=cy (λts=>∃ct ins sw,∃fr od:Int,∃new,ts=[.agg [.sl (aV ct),.sl (aB ins),ti sw],ti fr,ti od,.sl (aV new)]/\0<=fr/\fr<=ct.length/\0<=od/\od<=ct.length-fr/\ct.length<=1000000/\new.length<=1000000)
 (fun|[x,.int _ fr,.int _ od,.sl nw]=>.agg [.sl (aV (cz (Cw x) fr.toNat od.toNat (fJ nw)).aj),.sl (aB (cz (Cw x) fr.toNat od.toNat (fJ nw)).insert),ti (cz (Cw x) fr.toNat od.toNat (fJ nw)).swap]|_=>.bool false) false
theorem ok38:aw Tryz.prog (aX [(38,s38)]):=by
 refine aw.cons aw.nil ?_;rintro ts ⟨ct,ins,sw,fr,od,new,rfl,h1,h2,h3,h4,h5,h6⟩;obtain⟨fr,rfl⟩:=Zad h1;obtain⟨od,rfl⟩:=Zad h3;exact⟨by simpa [Input.enc]using t38 ⟨ct,ins,sw⟩ fr od new (by simpa using h2) (by simp only;omega) h5 h6,λh=>by cases h⟩
def TN(z:Ask):Prop:=0<=z.fr/\z.fr<=z.x.aj.length/\0<=z.od/\z.od<=z.x.aj.length-z.fr/\z.x.aj.length<=1000000/\z.new.length<=1000000
def nT(z:Ask):Input:=cz z.x z.fr.toNat z.od.toNat z.new
theorem t14(z:Ask)(h:TN z):aU Tryz.prog 14 [z.enc] (nT z).enc:=by
 obtain⟨⟨nt,nn,ns,rules⟩,⟨ct,ins,sw⟩,fr,od,new⟩:=z;obtain⟨h1,h2,h3,h4,h5,h6⟩:=h;simp only at h1 h2 h3 h4 h5 h6;have ay:=ok38;refine c14.ok (by simp) (aK ?_);simp[Ask.enc];refine aa.ab ay fw [1,2] ?_;simp[Hf];refine aa.le (Le.aC (o:=[(1003,.box [.aH,.aH,.v (ti 0)])]) (l:=[(1,.v (.box [ti nt,ti nn,ti ns,.sl (aR rules),.sl (aV ct),.sl (aB ins),ti sw,ti fr,ti od,.sl (aV new)])),(2,.ptr 1003 0)]) (nxt':=1200) ?_ ?_ ?_ ?_) ?_;iterate 4(·simp)
 refine aa.ab ay fw [2] ?_;simp[Hg,and_assoc,h1,h2,h3,h4,h5,h6];refine aa.ret ?_;simp[A7,nT,Input.enc]
theorem t15(z:Ask):aU Tryz.prog 15 [z.enc] (.agg [ti z.fr,ti z.od,ti (z.new.length:Int)]):=by
 obtain⟨⟨nt,nn,ns,rules⟩,⟨ct,ins,sw⟩,fr,od,new⟩:=z;have ay:=ej;refine c15.ok (by simp) (aK ?_);simp[Ask.enc];refine aa.ab ay fw [1,2] ?_;simp[aa7];refine aa.le (Le.aC (o:=[(1003,.box [.v (ti 0),.v (ti 0),.v (ti 0)])]) (l:=[(1,.v (.box [ti nt,ti nn,ti ns,.sl (aR rules),.sl (aV ct),.sl (aB ins),ti sw,ti fr,ti od,.sl (aV new)])),(2,.ptr 1003 0)]) (nxt':=1200) ?_ ?_ ?_ ?_) ?_;iterate 4(·simp)
 refine aa.ab ay fw [2] ?_;simp[aa8];refine aa.ret ?_;simp[Si]
end cq
end Go.Proofs
