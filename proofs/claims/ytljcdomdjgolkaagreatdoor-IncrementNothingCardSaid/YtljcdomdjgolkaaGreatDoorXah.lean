/- Part of the proof. Conditions: none. -/
import Derived.Test.YtljcdomdjgolkaaGreatDoorXac
import Derived.Test.YtljcdomdjgolkaaGreatDoorXag
import Derived.KernelRfl
import Derived.Test.YtljcdomdjgolkaaGreatDoorXae
set_option linter.unusedSectionVars false
set_option linter.unusedSimpArgs false
set_option linter.unusedVariables false
set_option maxHeartbeats 8000000
set_option maxRecDepth 100000
namespace Go.Proofs
namespace cu
open Go.DM
def abY:List RO:=[
 o (.box (t 0)) 3 [],
 o (.bP (i 0)) 6 []]
def abZ:List RO:=[
 n 1 8,
 a 1 3 9 [],
 l 9 10 [1],
 b .mul 8 10 11 [0,2],
 n 1 12,
 n 1 13,
 o (.bin .sub (t 13) (i 1)) 14 [5],
 b .mul 12 14 15 [4,6],
 o (.bin .quo (t 15) (i 2)) 16 [7],
 b .sub 11 16 17 [3,8],
 m 17 7 (k [9] 9)]
def ab0:List RO:=[
 n 7 18,
 n 2 19,
 b .add 18 19 20 [0,1],
 n 1 21,
 b .sub 20 21 22 [2,3],
 a 0 3 23 [],
 l 23 24 [5],
 b .mul 22 24 25 [4,6],
 m 25 6 (k [7] 7)]
def d64:DC:=(j (y abY)
 (j (y abZ)
 (j (y ab0)
 .ret)))
def SN:List bN:=[.slot 6]
theorem c64 [Laid]:aQ Tryz.prog 64 26 d64 SN:=⟨Tryz.f64,by kernel_rfl,by kernel_rfl,by kernel_rfl,by kernel_rfl,by kernel_rfl⟩
def HD:List RO:=[
 o (.box (t 0)) 2 [],
 o (.box (t 1)) 3 [],
 o (.alloc [(.v (.int .i64 0)),(.v (.int .i64 0)),(.v (.int .i64 0)),(.v (.int .i64 0))]) 4 []]
def th:List RO:=[
 a 0 3 7 [],
 l 7 8 [0],
 o (.bin .lss (t 8) (i 0)) 9 [1],
 m 9 10 [2],
 u 0 3 11 10 false [3],
 v 11 12 10 false [4,3],
 u 0 2 13 10 false [3],
 v 13 14 10 false [6,3],
 g (.bin .geq (t 12) (t 14)) 15 10 false [5,7,3],
 p 10 15 16 [3,8],
 m 16 17 [9,3],
 u 1 3 18 17 false [10],
 v 18 19 17 false [11,10],
 g (.bin .lss (t 19) (i 0)) 20 17 false [12,10],
 p 17 20 21 [10,13],
 m 21 22 [14,10],
 u 1 3 23 22 false [15],
 v 23 24 22 false [16,15],
 u 2 3 25 22 false [15],
 v 25 26 22 false [18,15],
 g (.bin .gtr (t 24) (t 26)) 27 22 false [17,19,15],
 p 22 27 28 [15,20],
 m 28 29 [21,15],
 u 2 3 30 29 false [22],
 v 30 31 29 false [23,22],
 u 1 2 32 29 false [22],
 v 32 33 29 false [25,22],
 g (.bin .geq (t 31) (t 33)) 34 29 false [24,26,22],
 p 29 34 35 [22,27]]
def HE:List RO:=[
 o (.load 4 true (.cq (.gz [(.int .i64 1099511627776),(.int .i64 0),(.int .i64 (-1)),(.int .i64 0)] 0))) 36 [],
 S 4 4 36 [0,0]]
def HF:List RO:=[
 a 2 2 37 [],
 l 37 38 [0],
 o (.len (t 38)) 39 [1],
 m 39 5 [2,0,1,2]]
def yE:List RO:=[
 a 2 3 40 [],
 l 40 41 [0],
 n 5 42,
 b .gtr 41 42 43 [1,2],
 m 43 44 [3],
 u 1 3 45 44 false [4],
 v 45 46 44 false [5,4],
 g (.bin .gtr (t 46) (i 0)) 47 44 false [6,4],
 w 47 48 44 false [7,4,4],
 u 1 2 49 48 true [8],
 v 49 50 48 true [9,8],
 w 5 51 48 true [8],
 g (.bin .gtr (t 50) (t 51)) 52 48 true [10,11,8],
 g (.pick (t 48) (t 52) (.cq (.v (.bool false)))) 53 44 false [8,12,4],
 p 44 53 54 [4,13],
 m 54 55 [14,8],
 u 2 3 56 55 false [15],
 v 56 57 55 false [16,15],
 g (.bin .gtr (t 57) (i 0)) 58 55 false [17,15],
 w 58 59 55 false [18,15,15],
 u 0 2 60 59 true [19],
 v 60 61 59 true [20,19],
 w 5 62 59 true [19],
 g (.bin .gtr (t 61) (t 62)) 63 59 true [21,22,19],
 g (.pick (t 59) (t 63) (.cq (.v (.bool false)))) 64 55 false [19,23,15],
 p 55 64 65 [15,24],
 m 65 66 [25,19],
 u 0 3 67 66 false [26],
 v 67 68 66 false [27,26],
 w 5 69 66 false [26],
 g (.bin .geq (t 68) (t 69)) 70 66 false [28,29,26],
 p 66 70 71 [26,30]]
def M0:List RO:=[
 o (.load 4 true (.cq (.gz [(.int .i64 1099511627776),(.int .i64 0),(.int .i64 (-1)),(.int .i64 0)] 0))) 72 [],
 S 4 4 72 [0,0]]
def HG:List RO:=[
 L 3 2 73 [],
 a 1 3 74 [],
 l 74 75 [1],
 a 2 3 76 [],
 l 76 77 [3],
 o (.call 64 [(t 73),(t 75),(t 77)]) 78 [0,2,4],
 a 0 3 79 [],
 l 79 80 [6],
 b .add 78 80 81 [5,7],
 m 81 6 (k [8,5] 8)]
def ab1:List RO:=[
 n 6 82,
 n 5 83,
 b .geq 82 83 84 [0,1]]
def d37r8:List RO:=[
 o (.load 4 true (.cq (.gz [(.int .i64 1099511627776),(.int .i64 0),(.int .i64 (-1)),(.int .i64 0)] 0))) 85 [],
 S 4 4 85 [0,0]]
def ab2:List RO:=[
 a 2 2 86 [],
 l 86 87 [0],
 n 6 88,
 x 4 87 88 89 [1,2],
 L 4 89 90 [3],
 S 4 4 90 (k [4] 4)]
def d37:DC:=(j (y HD)
 (j (j (y th)
 (.cond (.tmp 35) (j (y HE)
 .ret)
 .skip))
 (j (y HF)
 (j (j (y yE)
 (.cond (.tmp 71) (j (y M0)
 .ret)
 .skip))
 (j (Y HG)
 (j (j (y ab1)
 (.cond (.tmp 84) (j (y d37r8)
 .ret)
 .skip))
 (j (y ab2)
 .ret)))))))
def xn:List bN:=[.cell 4 4 true]
theorem c37:aQ Tryz.prog 37 91 d37 xn:=⟨Tryz.f37,by kernel_rfl,by kernel_rfl,by kernel_rfl,by kernel_rfl,by kernel_rfl⟩
def ab3:List RO:=[
 o (.box (t 0)) 2 [],
 o (.box (t 1)) 3 [],
 o (.bP (.cq (.v (.bool false)))) 4 []]
def HH:List RO:=[
 a 0 2 5 [],
 l 5 6 [0],
 a 0 3 7 [],
 l 7 8 [2],
 b .lss 6 8 9 [1,3],
 m 9 10 [4],
 u 0 2 11 10 false [5],
 v 11 12 10 false [6,5],
 u 0 3 13 10 false [5],
 v 13 14 10 false [8,5],
 g (.bin .eql (t 12) (t 14)) 15 10 false [7,9,5],
 w 15 16 10 false [10,5,5],
 u 1 2 17 16 true [11],
 v 17 18 16 true [12,11],
 u 1 3 19 16 true [11],
 v 19 20 16 true [14,11],
 g (.bin .lss (t 18) (t 20)) 21 16 true [13,15,11],
 g (.pick (t 16) (t 21) (.cq (.v (.bool false)))) 22 10 false [11,16,5],
 p 10 22 23 [5,17],
 m 23 4 (k [18,11] 18)]
def d56:DC:=(j (y ab3)
 (j (y HH)
 .ret))
def SO:List bN:=[.slot 4]
theorem c56 [Laid]:aQ Tryz.prog 56 24 d56 SO:=⟨Tryz.f56,by kernel_rfl,by kernel_rfl,by kernel_rfl,by kernel_rfl,by kernel_rfl⟩
def ab4:List RO:=[
 o (.alloc [(.v (.int .i64 0)),(.v (.int .i64 0))]) 4 []]
def ab5:List RO:=[
 n 0 8,
 o (.minmax false (t 8) (i 1099511627776)) 9 [0],
 o (.build [(.v (.int .i64 0)),(.v (.int .i64 0))] [(0,1,(t 9)),(1,1,(i 1))]) 10 [1],
 o (.alloc [(.v (.int .i64 0)),(.v (.int .i64 0))]) 5 [],
 S 2 5 10 [3,2,0,1,2,3]]
def ab6:List RO:=[
 n 1 11,
 o (.len (t 11)) 12 [0],
 o (.bP (i 0)) 13 []]
def ab7:List RO:=[
 b .lss 13 12 14 []]
def ab8:List RO:=[
 x 2 11 13 15 [],
 L 2 15 16 [0],
 o (.alloc [(.v (.int .i64 0)),(.v (.int .i64 0))]) 7 [],
 S 2 7 16 [2,1,0,1,2]]
def ab9:List RO:=[
 a 0 5 17 [],
 l 17 18 [0],
 a 0 7 19 [],
 l 19 20 [2],
 b .add 18 20 21 [1,3],
 o (.minmax false (t 21) (i 1099511627776)) 22 [4],
 a 0 5 23 (k [] 5),
 S 1 23 22 (k [6,5] 5)]
def aca:List RO:=[
 a 1 5 24 [],
 l 24 25 [0],
 a 1 7 26 [],
 l 26 27 [2],
 b .add 25 27 28 [1,3],
 o (.minmax false (t 28) (i 1099511627776)) 29 [4],
 a 1 5 30 (k [] 5),
 S 1 30 29 (k [6,5] 5)]
def acb:List RO:=[
 o (.bin .add (t 13) (i 1)) 31 [],
 m 31 13 [0]]
def acd:List RO:=[
 a 0 5 32 [],
 l 32 33 [0],
 o (.bin .eql (t 33) (i 1099511627776)) 34 [1]]
def ace:List RO:=[
 o (.build [(.v (.int .i64 0)),(.v (.int .i64 0))] [(0,1,(i 1099511627776))]) 35 [],
 S 2 4 35 [0,0]]
def SP:List RO:=[
 L 2 5 36 [],
 S 2 4 36 [0,0]]
def d84:DC:=(j (y ab4)
 (j (y ab5)
 (j (j (y ab6)
 (.block 0 (.loop (j (y ab7)
 (j (.cond (.tmp 14) .skip
 (.exit 0))
 (j (.block 1 (j (y ab8)
 (j (y ab9)
 (y aca))))
 (y acb)))))))
 (j (j (y acd)
 (.cond (.tmp 34) (j (y ace)
 .ret)
 .skip))
 (j (y SP)
 .ret)))))
def Kr:List bN:=[.cell 4 2 true]
theorem c84 [Laid]:aQ Tryz.prog 84 37 d84 Kr:=⟨Tryz.f84,by kernel_rfl,by kernel_rfl,by kernel_rfl,by kernel_rfl,by kernel_rfl⟩
def acf:List RO:=[
 o (.box (t 0)) 2 [],
 o (.bP (.cq (.v (.bool false)))) 4 []]
def A6:List RO:=[
 a 0 2 5 [],
 l 5 6 [0],
 o (.bin .eql (t 6) (i 3)) 7 [1],
 m 7 8 [2],
 u 2 2 9 8 true [3],
 v 9 10 8 true [4,3],
 w 1 11 8 true [3],
 g (.bin .eql (t 10) (t 11)) 12 8 true [5,6,3],
 q 8 12 13 [3,7],
 m 13 14 [8,3],
 u 0 2 15 14 false [9],
 v 15 16 14 false [10,9],
 g (.bin .eql (t 16) (i 4)) 17 14 false [11,9],
 w 17 18 14 false [12,9,9],
 u 2 2 19 18 true [13],
 v 19 20 18 true [14,13],
 w 1 21 18 true [13],
 g (.bin .eql (t 20) (t 21)) 22 18 true [15,16,13],
 w 22 23 18 true [17,13,13],
 u 3 2 24 23 false [18],
 v 24 25 23 false [19,18],
 w 1 26 23 false [18],
 g (.bin .eql (t 25) (t 26)) 27 23 false [20,21,18],
 g (.pick (t 23) (.cq (.v (.bool true))) (t 27)) 28 18 true [18,22,13],
 g (.pick (t 18) (t 28) (.cq (.v (.bool false)))) 29 14 false [13,23,9],
 p 14 29 30 [9,24],
 m 30 4 (k [25,18] 25)]
def d86:DC:=(j (y acf)
 (j (y A6)
 .ret))
def SQ:List bN:=[.slot 4]
theorem c86 [Laid]:aQ Tryz.prog 86 31 d86 SQ:=⟨Tryz.f86,by kernel_rfl,by kernel_rfl,by kernel_rfl,by kernel_rfl,by kernel_rfl⟩
def acg:List RO:=[
 o (.alloc [(.v (.int .i64 0)),(.v (.int .i64 0))]) 8 []]
def M1:List RO:=[
 n 2 9,
 n 0 10,
 c 10 11 [1],
 a 10 11 12 [2],
 l 12 13 [3],
 b .eql 9 13 14 [0,4],
 m 14 15 [5],
 w 3 16 15 true [6],
 w 0 17 15 true [6],
 g (.nilCheck (t 17)) 18 15 true [8,6],
 u 11 18 19 15 true [9,6],
 v 19 20 15 true [10,6],
 g (.bin .eql (t 16) (t 20)) 21 15 true [7,11,6],
 q 15 21 22 [6,12]]
def ach:List RO:=[
 n 0 23,
 c 23 24 [0],
 a 12 24 25 [1],
 l 25 26 [2],
 n 1 27,
 x 2 26 27 28 [3,4],
 L 2 28 29 [5],
 S 2 8 29 (k [6] 6)]
def aci:List RO:=[
 n 0 30,
 c 30 31 [0],
 a 7 31 32 [1],
 L 3 32 33 [2],
 n 1 34,
 n 2 35,
 n 3 36,
 o (.build [(.v (.int .i64 0)),(.v (.int .i64 0)),(.v (.int .i64 0))] [(0,1,(t 34)),(1,1,(t 35)),(2,1,(t 36))]) 37 [4,5,6],
 o (.call 37 [(t 33),(t 37)]) 38 [3,7],
 o (.field 0 2 true (t 38)) 39 [8],
 S 2 8 39 (k [9,8] 9)]
def d83:DC:=(j (y acg)
 (j (j (y M1)
 (.cond (.tmp 22) (j (y ach)
 .ret)
 .skip))
 (j (y aci)
 .ret)))
def Ks:List bN:=[.cell 8 2 true]
theorem c83 [Laid]:aQ Tryz.prog 83 40 d83 Ks:=⟨Tryz.f83,by kernel_rfl,by kernel_rfl,by kernel_rfl,by kernel_rfl,by kernel_rfl⟩
def SR:List RO:=[
 o (.bP (.cq (.v (.bool false)))) 4 []]
def SS:List RO:=[
 n 1 7,
 o (.len (t 7)) 8 [0],
 o (.bP (i 0)) 9 []]
def SU:List RO:=[
 b .lss 9 8 10 []]
def acj:List RO:=[
 x 3 7 9 11 [],
 L 3 11 12 [0],
 o (.alloc [(.v (.int .i64 0)),(.v (.int .i64 0)),(.v (.int .i64 0))]) 6 [],
 S 3 6 12 [2,1,0,1,2]]
def M3:List RO:=[
 a 1 6 13 [],
 l 13 14 [0],
 n 0 15,
 c 15 16 [2],
 a 10 16 17 [3],
 l 17 18 [4],
 b .eql 14 18 19 [1,5],
 m 19 20 [6],
 u 2 6 21 20 true [7],
 v 21 22 20 true [8,7],
 w 0 23 20 true [7],
 g (.nilCheck (t 23)) 24 20 true [10,7],
 u 11 24 25 20 true [11,7],
 v 25 26 20 true [12,7],
 g (.bin .eql (t 22) (t 26)) 27 20 true [9,13,7],
 q 20 27 28 [7,14]]
def ack:List RO:=[
 o (.bP (.cq (.v (.bool true)))) 4 []]
def acm:List RO:=[
 o (.bin .add (t 9) (i 1)) 29 [],
 m 29 9 [0]]
def SX:List RO:=[
 o (.bP (.cq (.v (.bool false)))) 4 []]
def d59:DC:=(j (y SR)
 (j (j (y SS)
 (.block 0 (.loop (j (y SU)
 (j (.cond (.tmp 10) .skip
 (.exit 0))
 (j (.block 1 (j (y acj)
 (j (Y M3)
 (.cond (.tmp 28) (j (y ack)
 .ret)
 .skip))))
 (y acm)))))))
 (j (y SX)
 .ret)))
def ER:List bN:=[.slot 4]
theorem c59 [Laid]:aQ Tryz.prog 59 30 d59 ER:=⟨Tryz.f59,by kernel_rfl,by kernel_rfl,by kernel_rfl,by kernel_rfl,by kernel_rfl⟩
def SY:List RO:=[
 o (.alloc [(.v (.int .i64 0)),(.v (.int .i64 0))]) 6 []]
def SZ:List RO:=[
 o (.bP (.cq .aI)) 7 []]
def S0:List RO:=[
 n 2 10,
 o (.len (t 10)) 11 [0],
 o (.bP (i 0)) 12 []]
def S3:List RO:=[
 b .lss 12 11 13 []]
def acn:List RO:=[
 x 3 10 12 14 [],
 L 3 14 15 [0],
 o (.alloc [(.v (.int .i64 0)),(.v (.int .i64 0)),(.v (.int .i64 0))]) 9 [],
 S 3 9 15 [2,1,0,1,2]]
def Kt:List RO:=[
 n 7 16,
 n 0 17,
 a 0 9 18 [],
 l 18 19 [2],
 a 1 9 20 [],
 l 20 21 [4],
 a 2 9 22 [],
 l 22 23 [6],
 o (.callS 83 [(t 17),(t 19),(t 21),(t 23)]) 24 [1,3,5,7],
 o (.bslice 1 2 [(.v (.int .i64 0)),(.v (.int .i64 0))] [(0,2,(t 24))]) 25 [8],
 o (.append 55 2 16 (t 16) (t 25)) 26 [0,9,8],
 m 26 7 (k [10,10] 10)]
def d61r5:List RO:=Kt.map bare
def aco:List RO:=[
 o (.bin .add (t 12) (i 1)) 27 [],
 m 27 12 [0]]
def S4:List RO:=[
 n 1 28,
 n 7 29,
 o (.call 84 [(t 28),(t 29)]) 30 [0,1],
 S 2 6 30 [2,2,0,1,2]]
def d61:DC:=(j (y SY)
 (j (y SZ)
 (j (j (y S0)
 (.block 0 (.loop (j (y S3)
 (j (.cond (.tmp 13) .skip
 (.exit 0))
 (j (.block 1 (j (y acn)
 (y d61r5)))
 (y aco)))))))
 (j (y S4)
 .ret))))
def Ku:List bN:=[.cell 6 2 true]
theorem c61 [Laid]:aQ Tryz.prog 61 31 d61 Ku:=⟨Tryz.f61,by kernel_rfl,by kernel_rfl,by kernel_rfl,by kernel_rfl,by kernel_rfl⟩
def acp:List RO:=[
 o (.bP (.cq (.v (.bool false)))) 4 []]
def acq:List RO:=[
 n 1 7,
 o (.len (t 7)) 8 [0],
 o (.bP (i 0)) 9 []]
def acr:List RO:=[
 b .lss 9 8 10 []]
def acs:List RO:=[
 x 3 7 9 11 [],
 L 3 11 12 [0],
 o (.alloc [(.v (.int .i64 0)),(.v (.int .i64 0)),(.v (.int .i64 0))]) 6 [],
 S 3 6 12 [2,1,0,1,2]]
def M4:List RO:=[
 a 1 6 13 [],
 l 13 14 [0],
 n 0 15,
 c 15 16 [2],
 a 10 16 17 [3],
 l 17 18 [4],
 b .eql 14 18 19 [1,5],
 m 19 20 [6],
 u 2 6 21 20 true [7],
 v 21 22 20 true [8,7],
 w 0 23 20 true [7],
 g (.nilCheck (t 23)) 24 20 true [10,7],
 u 11 24 25 20 true [11,7],
 v 25 26 20 true [12,7],
 g (.bin .eql (t 22) (t 26)) 27 20 true [9,13,7],
 q 20 27 28 [7,14],
 m 28 29 [15,7],
 w 0 30 29 true [16],
 g (.nilCheck (t 30)) 31 29 true [17,16],
 u 13 31 32 29 true [18,16],
 v 32 33 29 true [19,16],
 u 0 6 34 29 true [16],
 v 34 35 29 true [21,16],
 g (.idxAddr 1 (t 33) (t 35)) 36 29 true [20,22,16],
 v 36 37 29 true [23,16],
 g (.un .not (t 37)) 38 29 true [24,16],
 q 29 38 39 [16,25]]
def acu:List RO:=[
 o (.bP (.cq (.v (.bool false)))) 4 []]
def acv:List RO:=[
 o (.bin .add (t 9) (i 1)) 40 [],
 m 40 9 [0]]
def acw:List RO:=[
 o (.bP (.cq (.v (.bool true)))) 4 []]
def d89:DC:=(j (y acp)
 (j (j (y acq)
 (.block 0 (.loop (j (y acr)
 (j (.cond (.tmp 10) .skip
 (.exit 0))
 (j (.block 1 (j (y acs)
 (j (Y M4)
 (.cond (.tmp 39) (j (y acu)
 .ret)
 .skip))))
 (y acv)))))))
 (j (y acw)
 .ret)))
def Kv:List bN:=[.slot 4]
theorem c89 [Laid]:aQ Tryz.prog 89 41 d89 Kv:=⟨Tryz.f89,by kernel_rfl,by kernel_rfl,by kernel_rfl,by kernel_rfl,by kernel_rfl⟩
def HI:List RO:=[
 o (.bP (.cq (.v (.raw (Go.Value.pointer Option.none))))) 2 []]
def HJ:List RO:=[
 n 0 3,
 o (.mkMap [(.int .i64)] false) 4 [],
 o (.build [(.v (.raw (Go.Value.nilFunc))),.aI,(.v (.raw (Go.Value.map Option.none))),(.v (.int .i64 0)),(.v (.int .i64 0))] [(0,1,(t 3)),(2,1,(t 4))]) 5 [0,1],
 o (.box (t 5)) 6 [2],
 m 6 2 [3,0,1,2,3]]
def d54:DC:=(j (y HI)
 (j (y HJ)
 .ret))
def xo:List bN:=[.slot 2]
theorem c54 [Laid]:aQ Tryz.prog 54 7 d54 xo:=⟨Tryz.f54,by kernel_rfl,by kernel_rfl,by kernel_rfl,by kernel_rfl,by kernel_rfl⟩
def S5:List RO:=[
 o (.bP (.cq (.v (.bool false)))) 6 []]
def Kw:List RO:=[
 n 0 9,
 c 9 10 [0],
 a 1 10 11 [1],
 l 11 12 [2],
 n 1 13,
 x 3 12 13 14 [3,4],
 L 3 14 15 [5],
 n 0 16,
 c 16 17 [7],
 a 1 17 18 [8],
 l 18 19 [9],
 n 2 20,
 x 3 19 20 21 [10,11],
 L 3 21 22 [12],
 o (.alloc [(.v (.int .i64 0)),(.v (.int .i64 0)),(.v (.int .i64 0))]) 7 [],
 o (.alloc [(.v (.int .i64 0)),(.v (.int .i64 0)),(.v (.int .i64 0))]) 8 [],
 S 3 7 15 [14,6,0,1,2,3,4,5,6,14,15],
 S 3 8 22 (k [15,13,16] 16)]
def S6:List RO:=[
 n 0 23,
 c 23 24 [0],
 a 0 24 25 [1],
 l 25 26 [2],
 a 0 7 27 [],
 l 27 28 [4],
 a 0 8 29 [],
 l 29 30 [6],
 o (.callv (t 26) [(t 28),(t 30)]) 31 [3,5,7]]
def S7:List RO:=[
 o (.bP (.cq (.v (.bool true)))) 6 []]
def Ky:List RO:=[
 n 0 32,
 c 32 33 [0],
 a 0 33 34 [1],
 l 34 35 [2],
 a 0 8 36 [],
 l 36 37 [4],
 a 0 7 38 [],
 l 38 39 [6],
 o (.callv (t 35) [(t 37),(t 39)]) 40 [3,5,7],
 o (.un .not (t 40)) 41 [8],
 m 41 42 [9,8],
 u 2 7 43 42 true [10],
 v 43 44 42 true [11,10],
 u 2 8 45 42 true [10],
 v 45 46 42 true [13,10],
 g (.bin .lss (t 44) (t 46)) 47 42 true [12,14,10],
 q 42 47 48 [10,15],
 m 48 6 (k [16,10] 16)]
def d117:DC:=(j (y S5)
 (j (.jU Kw)
 (j (j (Y S6)
 (.cond (.tmp 31) (j (y S7)
 .ret)
 .skip))
 (j (Y Ky)
 .ret))))
def ES:List bN:=[.slot 6]
theorem c117 [Laid]:aQ Tryz.prog 117 49 d117 ES:=⟨Tryz.f117,by kernel_rfl,by kernel_rfl,by kernel_rfl,by kernel_rfl,by kernel_rfl⟩
def S8:List RO:=[
 n 0 6,
 c 6 7 [0],
 a 1 7 8 [1],
 l 8 9 [2],
 n 1 10,
 n 0 11,
 c 11 12 [5],
 a 1 12 13 [6],
 l 13 14 [7],
 n 2 15,
 n 0 16,
 c 16 17 [10],
 a 1 17 18 [11],
 l 18 19 [12],
 n 2 20,
 x 3 19 20 21 [13,14],
 L 3 21 22 [15],
 n 0 23,
 c 23 24 [17],
 a 1 24 25 [18],
 l 25 26 [19],
 n 1 27,
 x 3 26 27 28 [20,21],
 L 3 28 29 [22],
 x 3 9 10 30 [3,4,0,1,2,3,4,8,10,11,12,13,14,15,16,20,23],
 S 3 30 22 [24,16,0,1,2,3,4,8,10,11,12,13,14,15,16,20,23],
 x 3 14 15 31 (k [8,9] 25),
 S 3 31 29 (k [26,23,25] 25)]
def S9:List RO:=[
 n 0 32,
 c 32 33 [0],
 a 2 33 34 [1],
 l 34 35 [2],
 n 0 36,
 c 36 37 [4],
 a 1 37 38 [5],
 l 38 39 [6],
 n 1 40,
 x 3 39 40 41 [7,8],
 a 1 41 42 [9],
 l 42 43 [10],
 n 0 44,
 c 44 45 [12],
 a 2 45 46 [13],
 l 46 47 [14],
 n 0 48,
 c 48 49 [16],
 a 1 49 50 [17],
 l 50 51 [18],
 n 2 52,
 x 3 51 52 53 [19,20],
 a 1 53 54 [21],
 l 54 55 [22],
 n 1 56,
 n 2 57,
 o (.mapEnt [(.int .i64)] false (.v (.int .i64 0)) (t 35) (t 43)) 58 [3,11,15,19,23],
 e 1 58 59 [26],
 s (.entSt (t 35) (t 59) (t 56)) [3,27,24,26,0,1,2,3,4,5,6,7,8,9,10,11,15,19,23,24,26],
 o (.mapEnt [(.int .i64)] false (.v (.int .i64 0)) (t 47) (t 55)) 60 [15,23,28,0,1,2,3,4,5,6,7,8,9,10,11,15,19,23,24,26,27,28],
 e 1 60 61 [29],
 s (.entSt (t 47) (t 61) (t 57)) (k [15,30,25,29] 29)]
def d111:DC:=(j (Y S8)
 (Y S9))
def M6:List bN:=[]
theorem c111 [Laid]:aQ Tryz.prog 111 62 d111 M6:=⟨Tryz.f111,by kernel_rfl,by kernel_rfl,by kernel_rfl,by kernel_rfl,by kernel_rfl⟩
def vy:List RO:=[
 n 1 4,
 o (.bin .gtr (t 4) (i 0)) 5 [0],
 m 5 6 [1],
 w 0 7 6 true [2],
 w 1 8 6 true [2],
 w 1 9 6 true [2],
 g (.bin .sub (t 9) (i 1)) 10 6 true [5,2],
 g (.bin .quo (t 10) (i 2)) 11 6 true [6,2],
 g (.callS 117 [(t 7),(t 8),(t 11)]) 12 6 true [3,4,7,2,2],
 q 6 12 13 [2,8]]
def d109r0:List RO:=vy.map bare
def ET:List RO:=[
 n 0 14,
 n 1 15,
 n 1 16,
 o (.bin .sub (t 16) (i 1)) 17 [2],
 o (.bin .quo (t 17) (i 2)) 18 [3],
 o (.callS 111 [(t 14),(t 15),(t 18)]) 19 [0,1,4]]
def d109r1:List RO:=ET.map bare
def Ta:List RO:=[
 n 1 20,
 o (.bin .sub (t 20) (i 1)) 21 [0],
 o (.bin .quo (t 21) (i 2)) 22 [1],
 m 22 1 [2,0,1,2]]
def d109:DC:=(.block 0 (.loop (j (j (y d109r0)
 (.cond (.tmp 13) .skip
 (.exit 0)))
 (.block 1 (j (y d109r1)
 (y Ta))))))
def EU:List bN:=[]
theorem c109 [Laid]:aQ Tryz.prog 109 23 d109 EU:=⟨Tryz.f109,by kernel_rfl,by kernel_rfl,by kernel_rfl,by kernel_rfl,by kernel_rfl⟩
def Tb:List RO:=[
 n 1 6,
 m 6 4 [0,0]]
def Tc:List RO:=[
 n 1 7,
 o (.bin .mul (i 2) (t 7)) 8 [0],
 o (.bin .add (t 8) (i 1)) 9 [1],
 m 9 5 [2,0,1,2]]
def EV:List RO:=[
 n 5 10,
 n 1 11,
 o (.bin .mul (i 2) (t 11)) 12 [1],
 o (.bin .add (t 12) (i 2)) 13 [2],
 b .leq 10 13 14 [0,3],
 m 14 15 [4],
 w 5 16 15 true [5],
 w 0 17 15 true [5],
 g (.nilCheck (t 17)) 18 15 true [7,5],
 u 1 18 19 15 true [8,5],
 v 19 20 15 true [9,5],
 g (.len (t 20)) 21 15 true [10,5],
 g (.bin .lss (t 16) (t 21)) 22 15 true [6,11,5],
 q 15 22 23 [5,12]]
def EW:List RO:=[
 n 0 26,
 n 5 27,
 n 4 28,
 o (.callS 117 [(t 26),(t 27),(t 28)]) 29 [0,1,2]]
def d110r3:List RO:=EW.map bare
def Td:List RO:=[
 n 5 30,
 m 30 4 [0,0]]
def Te:List RO:=[
 n 5 24,
 o (.bin .add (t 24) (i 1)) 25 [0],
 m 25 5 [1,0,1]]
def Tf:List RO:=[
 n 4 31,
 n 1 32,
 b .eql 31 32 33 [0,1]]
def EX:List RO:=[
 n 0 34,
 n 1 35,
 n 4 36,
 o (.callS 111 [(t 34),(t 35),(t 36)]) 37 [0,1,2]]
def d110r7:List RO:=EX.map bare
def Tg:List RO:=[
 n 4 38,
 m 38 1 [0,0]]
def d110:DC:=(.block 0 (.loop (.block 1 (j (y Tb)
 (j (j (y Tc)
 (.block 2 (.loop (j (j (y EV)
 (.cond (.tmp 23) .skip
 (.exit 2)))
 (j (.block 3 (j (y d110r3)
 (.cond (.tmp 29) (y Td)
 .skip)))
 (y Te))))))
 (j (j (y Tf)
 (.cond (.tmp 33) .ret
 .skip))
 (j (y d110r7)
 (y Tg))))))))
def M7:List bN:=[]
theorem c110 [Laid]:aQ Tryz.prog 110 39 d110 M7:=⟨Tryz.f110,by kernel_rfl,by kernel_rfl,by kernel_rfl,by kernel_rfl,by kernel_rfl⟩
def acx:List RO:=[
 o (.bP (i 0)) 4 []]
def acy:List RO:=[
 n 0 7,
 c 7 8 [0],
 a 3 8 9 [1],
 l 9 10 [2],
 n 0 11,
 c 11 12 [4],
 a 1 12 13 [5],
 l 13 14 [6],
 o (.len (t 14)) 15 [7],
 m 10 5 [3,0,1,2,3],
 m 15 6 (k [8,9] 9)]
def acz:List RO:=[
 n 0 16,
 n 0 17,
 c 17 18 [1],
 a 1 18 19 [2],
 l 19 20 [3],
 n 1 21,
 n 5 22,
 n 0 23,
 c 23 24 [7],
 a 4 24 25 [8],
 l 25 26 [9],
 o (.build [(.v (.int .i64 0)),(.v (.int .i64 0)),(.v (.int .i64 0))] [(0,1,(t 21)),(1,1,(t 22)),(2,1,(t 26))]) 27 [5,6,10],
 o (.bslice 1 3 [(.v (.int .i64 0)),(.v (.int .i64 0)),(.v (.int .i64 0))] [(0,3,(t 27))]) 28 [11],
 o (.append 177 3 24 (t 20) (t 28)) 29 [4,12],
 c 16 30 (k [0] 13),
 a 1 30 31 (k [14] 13),
 S 1 31 29 (k [15,13,13] 13)]
def acA:List RO:=[
 n 0 32,
 c 32 33 [0],
 a 2 33 34 [1],
 l 34 35 [2],
 n 5 36,
 n 6 37,
 s (.mapUpd [(.int .i64)] false (t 35) (t 36) (t 37)) (k [3,4,5] 5)]
def acB:List RO:=[
 n 0 38,
 n 0 39,
 n 0 40,
 c 40 41 [2],
 a 3 41 42 [3],
 l 42 43 [4],
 o (.bin .add (t 43) (i 1)) 44 [5],
 n 0 45,
 c 45 46 [7],
 a 4 46 47 [8],
 l 47 48 [9],
 o (.bin .add (t 48) (i 1)) 49 [10],
 c 38 50 [0,0,2,3,4,5,6,10],
 a 3 50 51 [12,0,2,3,4,5,6,10],
 S 1 51 44 [13,6,0,2,3,4,5,6,10],
 c 39 52 (k [1] 14),
 a 4 52 53 (k [15] 14),
 S 1 53 49 (k [16,11,14] 14)]
def Kz:List RO:=[
 n 0 54,
 n 6 55,
 o (.callS 109 [(t 54),(t 55)]) 56 [0,1]]
def d82r5:List RO:=Kz.map bare
def acC:List RO:=[
 n 5 57,
 m 57 4 [0,0]]
def d82:DC:=(j (y acx)
 (j (Y acy)
 (j (Y acz)
 (j (y acA)
 (j (Y acB)
 (j (y d82r5)
 (j (y acC)
 .ret)))))))
def Th:List bN:=[.slot 4]
theorem c82 [Laid]:aQ Tryz.prog 82 58 d82 Th:=⟨Tryz.f82,by kernel_rfl,by kernel_rfl,by kernel_rfl,by kernel_rfl,by kernel_rfl⟩
def acD:List RO:=[
 o (.bP (i 0)) 2 [],
 o (.bP (.cq (.v (.bool false)))) 3 [0]]
def acE:List RO:=[
 n 0 6,
 c 6 7 [0],
 a 1 7 8 [1],
 l 8 9 [2],
 o (.len (t 9)) 10 [3],
 o (.bin .eql (t 10) (i 0)) 11 [4]]
def acF:List RO:=[
 o (.alloc [(.v (.int .i64 0))]) 12 [],
 c 12 13 [0],
 l 13 14 [1],
 m 14 2 [2,0,1,2],
 o (.bP (.cq (.v (.bool false)))) 3 [3,0,1,2,3]]
def Ti:List RO:=[
 n 0 15,
 c 15 16 [0],
 a 1 16 17 [1],
 l 17 18 [2],
 o (.idxAddr 3 (t 18) (i 0)) 19 [3],
 L 3 19 20 [4],
 n 0 21,
 c 21 22 [6],
 a 1 22 23 [7],
 l 23 24 [8],
 o (.len (t 24)) 25 [9],
 o (.bin .sub (t 25) (i 1)) 26 [10],
 o (.alloc [(.v (.int .i64 0)),(.v (.int .i64 0)),(.v (.int .i64 0))]) 4 [],
 S 3 4 20 [12,5,0,1,2,3,4,5,12],
 m 26 5 (k [11,13] 13)]
def KA:List RO:=[
 n 0 27,
 n 5 28,
 o (.callS 111 [(t 27),(i 0),(t 28)]) 29 [0,1]]
def d85r4:List RO:=KA.map bare
def acG:List RO:=[
 n 0 30,
 n 0 31,
 c 31 32 [1],
 a 1 32 33 [2],
 l 33 34 [3],
 n 5 35,
 o (.slice 3 (t 34) none (some (t 35))) 36 [4,5],
 c 30 37 (k [0] 6),
 a 1 37 38 (k [7] 6),
 S 1 38 36 (k [8,6] 6)]
def acH:List RO:=[
 n 0 39,
 c 39 40 [0],
 a 2 40 41 [1],
 l 41 42 [2],
 a 1 4 43 [],
 l 43 44 [4],
 s (.mapDel [(.int .i64)] false (t 42) (t 44)) [3,5]]
def KB:List RO:=[
 n 0 45,
 o (.callS 110 [(t 45),(i 0)]) 46 [0]]
def d85r7:List RO:=KB.map bare
def acI:List RO:=[
 a 0 4 47 [],
 l 47 48 [0],
 m 48 2 [1,0,1],
 o (.bP (.cq (.v (.bool true)))) 3 [2,0,1,2]]
def d85:DC:=(j (y acD)
 (j (j (y acE)
 (.cond (.tmp 11) (j (y acF)
 .ret)
 .skip))
 (j (.jU Ti)
 (j (y d85r4)
 (j (y acG)
 (j (Y acH)
 (j (y d85r7)
 (j (y acI)
 .ret))))))))
def KC:List bN:=[.slot 2,.slot 3]
theorem c85 [Laid]:aQ Tryz.prog 85 49 d85 KC:=⟨Tryz.f85,by kernel_rfl,by kernel_rfl,by kernel_rfl,by kernel_rfl,by kernel_rfl⟩
def acJ:List RO:=[
 o (.bP (.cq (.v (.bool false)))) 6 []]
def acK:List RO:=[
 n 0 10,
 c 10 11 [0],
 a 2 11 12 [1],
 l 12 13 [2],
 n 1 14,
 o (.lookup [(.int .i64)] false (.v (.int .i64 0)) true (t 13) (t 14)) 15 [3,4],
 m 15 9 [5],
 e 0 9 16 [6],
 e 1 9 17 [6],
 m 16 7 (k [7] 7),
 m 17 8 (k [8,9] 9)]
def acL:List RO:=[
 n 8 18,
 o (.un .not (t 18)) 19 [0]]
def d81r3:List RO:=[
 o (.bP (.cq (.v (.bool false)))) 6 []]
def acM:List RO:=[
 n 0 20,
 c 20 21 [0],
 a 1 21 22 [1],
 l 22 23 [2],
 n 7 24,
 n 0 25,
 c 25 26 [5],
 a 1 26 27 [6],
 l 27 28 [7],
 n 7 29,
 n 2 30,
 n 0 31,
 c 31 32 [11],
 a 4 32 33 [12],
 l 33 34 [13],
 x 3 23 24 35 [3,4,0,1,2,3,4,8,10,14],
 a 0 35 36 [15,0,1,2,3,4,8,10,14],
 S 1 36 30 [16,10,0,1,2,3,4,8,10,14],
 x 3 28 29 37 (k [8,9] 17),
 a 2 37 38 (k [18] 17),
 S 1 38 34 (k [19,14,17] 17)]
def acN:List RO:=[
 n 0 39,
 c 39 40 [0],
 a 4 40 41 [1],
 l 41 42 [2],
 o (.bin .add (t 42) (i 1)) 43 [3],
 c 39 44 (k [0] 4),
 a 4 44 45 (k [5] 4),
 S 1 45 43 (k [6,4] 4)]
def KD:List RO:=[
 n 0 46,
 n 7 47,
 o (.callS 109 [(t 46),(t 47)]) 48 [0,1]]
def d81r6:List RO:=KD.map bare
def KE:List RO:=[
 n 0 49,
 n 0 50,
 c 50 51 [1],
 a 2 51 52 [2],
 l 52 53 [3],
 n 1 54,
 o (.lookup [(.int .i64)] false (.v (.int .i64 0)) false (t 53) (t 54)) 55 [4,5],
 o (.callS 110 [(t 49),(t 55)]) 56 [0,6]]
def d81r7:List RO:=KE.map bare
def acO:List RO:=[
 o (.bP (.cq (.v (.bool true)))) 6 []]
def d81:DC:=(j (y acJ)
 (j (y acK)
 (j (j (y acL)
 (.cond (.tmp 19) (j (y d81r3)
 .ret)
 .skip))
 (j (Y acM)
 (j (y acN)
 (j (y d81r6)
 (j (y d81r7)
 (j (y acO)
 .ret))))))))
def Tj:List bN:=[.slot 6]
theorem c81 [Laid]:aQ Tryz.prog 81 57 d81 Tj:=⟨Tryz.f81,by kernel_rfl,by kernel_rfl,by kernel_rfl,by kernel_rfl,by kernel_rfl⟩
def HK:List RO:=[
 o (.box (t 2)) 5 []]
def yF:List RO:=[
 n 0 6,
 c 6 7 [0],
 a 13 7 8 [1],
 l 8 9 [2],
 n 1 10,
 x 1 9 10 11 [3,4],
 l 11 12 [5],
 m 12 13 [6],
 u 0 5 14 13 false [7],
 v 14 15 13 false [8,7],
 g (.bin .geq (t 15) (i 1099511627776)) 16 13 false [9,7],
 p 13 16 17 [7,10],
 m 17 18 [11,7],
 g (.load 2 true (t 5)) 19 18 false [12],
 w 0 20 18 false [12],
 g (.nilCheck (t 20)) 21 18 false [14,12],
 u 12 21 22 18 false [15,12],
 v 22 23 18 false [16,12],
 w 1 24 18 false [12],
 g (.idxAddr 2 (t 23) (t 24)) 25 18 false [17,18,12],
 g (.load 2 true (t 25)) 26 18 false [19,12],
 g (.call 56 [(t 19),(t 26)]) 27 18 false [13,20,12,12],
 g (.un .not (t 27)) 28 18 false [21,12],
 p 18 28 29 [12,22]]
def HL:List RO:=[
 n 0 30,
 c 30 31 [0],
 a 12 31 32 [1],
 l 32 33 [2],
 n 1 34,
 L 2 5 35 [],
 x 2 33 34 36 (k [3,4] 5),
 S 2 36 35 (k [6,5] 5)]
def HM:List RO:=[
 n 0 37,
 c 37 38 [0],
 a 14 38 39 [1],
 l 39 40 [2],
 n 1 41,
 x 1 40 41 42 [3,4],
 l 42 43 [5],
 o (.bin .geq (t 43) (i 0)) 44 [6]]
def M8:List RO:=[
 n 0 45,
 c 45 46 [0],
 a 15 46 47 [1],
 l 47 48 [2],
 n 0 49,
 c 49 50 [4],
 a 14 50 51 [5],
 l 51 52 [6],
 n 1 53,
 x 1 52 53 54 [7,8],
 l 54 55 [9],
 n 1 56,
 o (.call 81 [(t 48),(t 55),(t 56)]) 57 [3,10,11]]
def Tk:List RO:=[
 n 0 45,
 c 45 46 [0],
 a 15 46 47 [1],
 l 47 48 [2],
 n 0 49,
 c 49 50 [4],
 a 14 50 51 [5],
 l 51 52 [6],
 n 1 53,
 x 1 52 53 54 [7,8],
 l 54 55 [9],
 n 1 56,
 o (.callS 81 [(t 48),(t 55),(t 56)]) 57 [3,10,11]]
def M9:List RO:=[
 n 0 58,
 c 58 59 [0],
 a 14 59 60 [1],
 l 60 61 [2],
 n 1 62,
 n 0 63,
 c 63 64 [5],
 a 15 64 65 [6],
 l 65 66 [7],
 n 1 67,
 o (.call 82 [(t 66),(t 67)]) 68 [8,9],
 x 1 61 62 69 (k [3,4] 10),
 S 1 69 68 (k [11,10,10] 10)]
def Tl:List RO:=[
 n 0 58,
 c 58 59 [0],
 a 14 59 60 [1],
 l 60 61 [2],
 n 1 62,
 n 0 63,
 c 63 64 [5],
 a 15 64 65 [6],
 l 65 66 [7],
 n 1 67,
 o (.callS 82 [(t 66),(t 67)]) 68 [8,9],
 x 1 61 62 69 (k [3,4] 10),
 S 1 69 68 (k [11,10,10] 10)]
def d60:DC:=(j (y HK)
 (j (j (Y yF)
 (.cond (.tmp 29) .ret
 .skip))
 (j (Y HL)
 (j (y HM)
 (.cond (.tmp 44) (Y M8)
 (Y M9))))))
def tX:List bN:=[]
theorem c60 [Laid]:aQ Tryz.prog 60 70 d60 tX:=⟨Tryz.f60,by kernel_rfl,by kernel_rfl,by kernel_rfl,by kernel_rfl,by kernel_rfl⟩
def Tm:List RO:=[
 o (.bP (i 0)) 4 []]
def Tn:List RO:=[
 n 0 8,
 o (.bP (i 0)) 5 [],
 m 8 6 [0,1,0,1]]
def To:List RO:=[
 n 5 9,
 n 6 10,
 b .lss 9 10 11 [0,1]]
def Tp:List RO:=[
 n 5 12,
 n 6 13,
 b .add 12 13 14 [0,1],
 o (.conv .u64 (t 14)) 15 [2],
 o (.bin .shr (t 15) (.cq (.v (.int .u64 1)))) 16 [3],
 o (.conv .i64 (t 16)) 17 [4],
 m 17 7 (k [5] 5)]
def Tq:List RO:=[
 n 1 18,
 n 7 19,
 o (.callv (t 18) [(t 19)]) 20 [0,1],
 o (.un .not (t 20)) 21 [2]]
def Tr:List RO:=[
 n 7 22,
 o (.bin .add (t 22) (i 1)) 23 [0],
 m 23 5 [1,0,1]]
def Ts:List RO:=[
 n 7 24,
 m 24 6 [0,0]]
def Tt:List RO:=[
 n 5 25,
 m 25 4 [0,0]]
def d107:DC:=(j (y Tm)
 (j (y Tn)
 (j (.block 0 (.loop (j (j (y To)
 (.cond (.tmp 11) .skip
 (.exit 0)))
 (.block 1 (j (y Tp)
 (j (y Tq)
 (.cond (.tmp 21) (y Tr)
 (y Ts))))))))
 (j (y Tt)
 .ret))))
def Na:List bN:=[.slot 4]
theorem c107 [Laid]:aQ Tryz.prog 107 26 d107 Na:=⟨Tryz.f107,by kernel_rfl,by kernel_rfl,by kernel_rfl,by kernel_rfl,by kernel_rfl⟩
def Tu:List RO:=[
 o (.bP (.cq (.v (.bool false)))) 3 []]
def Tv:List RO:=[
 l 1 5 [],
 c 5 6 [0],
 a 4 6 7 [1],
 a 1 7 8 [2],
 l 8 9 [3],
 n 0 10,
 x 5 9 10 11 [4,5],
 L 5 11 12 [6],
 o (.alloc [(.v (.int .i64 0)),(.v (.int .i64 0)),(.v (.int .i64 0)),(.v (.int .i64 0)),.aI]) 4 [],
 S 5 4 12 (k [8,7] 8)]
def A7:List RO:=[
 a 0 4 13 [],
 l 13 14 [0],
 l 1 15 [],
 c 15 16 [2],
 a 10 16 17 [3],
 l 17 18 [4],
 b .gtr 14 18 19 [1,5],
 m 19 20 [6],
 u 0 4 21 20 false [7],
 v 21 22 20 false [8,7],
 v 1 23 20 false [7],
 g (.nilCheck (t 23)) 24 20 false [10,7],
 u 10 24 25 20 false [11,7],
 v 25 26 20 false [12,7],
 g (.bin .eql (t 22) (t 26)) 27 20 false [9,13,7],
 w 27 28 20 false [14,7,7],
 u 1 4 29 28 true [15],
 v 29 30 28 true [16,15],
 v 1 31 28 true [15],
 g (.nilCheck (t 31)) 32 28 true [18,15],
 u 11 32 33 28 true [19,15],
 v 33 34 28 true [20,15],
 g (.bin .geq (t 30) (t 34)) 35 28 true [17,21,15],
 g (.pick (t 28) (t 35) (.cq (.v (.bool false)))) 36 20 false [15,22,7],
 p 20 36 37 [7,23],
 m 37 3 (k [24,15] 24)]
def d108:DC:=(j (y Tu)
 (j (y Tv)
 (j (Y A7)
 .ret)))
def Nb:List bN:=[.slot 3]
theorem c108 [Laid]:aQ Tryz.prog 108 38 d108 Nb:=⟨Tryz.f108,by kernel_rfl,by kernel_rfl,by kernel_rfl,by kernel_rfl,by kernel_rfl⟩
def acP:List RO:=[
 o (.box (t 0)) 1 [],
 o (.bP (i 0)) 2 [],
 o (.bP (i 0)) 3 [1]]
def KF:List RO:=[
 l 1 6 [],
 c 6 7 [0],
 a 4 7 8 [1],
 a 1 8 9 [2],
 l 9 10 [3],
 o (.len (t 10)) 11 [4],
 o (.mkFn (.func 108) [(t 1)]) 12 [],
 o (.callS 107 [(t 11),(t 12)]) 13 [5,6],
 m 13 4 (k [7,7] 7)]
def d80r1:List RO:=KF.map bare
def acQ:List RO:=[
 n 4 14,
 m 14 5 [0,0]]
def HN:List RO:=[
 n 5 15,
 l 1 16 [],
 c 16 17 [1],
 a 4 17 18 [2],
 a 1 18 19 [3],
 l 19 20 [4],
 o (.len (t 20)) 21 [5],
 b .lss 15 21 22 [0,6],
 m 22 23 [7],
 v 1 24 23 true [8],
 g (.nilCheck (t 24)) 25 23 true [9,8],
 u 4 25 26 23 true [10,8],
 u 1 26 27 23 true [11,8],
 v 27 28 23 true [12,8],
 w 5 29 23 true [8],
 g (.idxAddr 5 (t 28) (t 29)) 30 23 true [13,14,8],
 u 0 30 31 23 true [15,8],
 v 31 32 23 true [16,8],
 v 1 33 23 true [8],
 g (.nilCheck (t 33)) 34 23 true [18,8],
 u 10 34 35 23 true [19,8],
 v 35 36 23 true [20,8],
 g (.bin .eql (t 32) (t 36)) 37 23 true [17,21,8],
 q 23 37 38 [8,22],
 m 38 39 [23,8],
 v 1 40 39 true [24],
 g (.nilCheck (t 40)) 41 39 true [25,24],
 u 4 41 42 39 true [26,24],
 u 1 42 43 39 true [27,24],
 v 43 44 39 true [28,24],
 w 5 45 39 true [24],
 g (.idxAddr 5 (t 44) (t 45)) 46 39 true [29,30,24],
 u 1 46 47 39 true [31,24],
 v 47 48 39 true [32,24],
 v 1 49 39 true [24],
 g (.nilCheck (t 49)) 50 39 true [34,24],
 u 11 50 51 39 true [35,24],
 v 51 52 39 true [36,24],
 g (.bin .eql (t 48) (t 52)) 53 39 true [33,37,24],
 q 39 53 54 [24,38]]
def acR:List RO:=[
 n 5 55,
 o (.bin .add (t 55) (i 1)) 56 [0],
 m 56 5 [1,0,1]]
def acS:List RO:=[
 n 4 57,
 n 5 58,
 m 57 2 [0,0],
 m 58 3 [1,2,0,1,2]]
def d80:DC:=(j (y acP)
 (j (y d80r1)
 (j (y acQ)
 (j (.block 0 (.loop (j (j (Y HN)
 (.cond (.tmp 54) .skip
 (.exit 0)))
 (.block 1 (y acR)))))
 (j (y acS)
 .ret)))))
def Tw:List bN:=[.slot 2,.slot 3]
theorem c80 [Laid]:aQ Tryz.prog 80 59 d80 Tw:=⟨Tryz.f80,by kernel_rfl,by kernel_rfl,by kernel_rfl,by kernel_rfl,by kernel_rfl⟩
def acT:List RO:=[
 o (.box (t 1)) 4 []]
def acU:List RO:=[
 a 0 4 10 [],
 l 10 11 [0]]
def acV:List RO:=[
 o (.bin .eql (t 11) (i 1)) 13 [],
 m 13 12 [0]]
def acW:List RO:=[
 n 0 14,
 c 14 15 [0],
 a 10 15 16 [1],
 l 16 17 [2],
 n 0 18,
 c 18 19 [4],
 a 11 19 20 [5],
 l 20 21 [6],
 b .eql 17 21 22 [3,7]]
def acX:List RO:=[
 n 2 23,
 n 0 24,
 c 24 25 [1],
 a 10 25 26 [2],
 l 26 27 [3],
 a 4 4 28 [],
 l 28 29 [5],
 o (.callv (t 23) [(t 27),(t 29),(.cq .aI)]) 30 [0,4,6]]
def acY:List RO:=[
 o (.bin .eql (t 11) (i 2)) 32 [],
 m 32 31 [0]]
def KG:List RO:=[
 n 0 34,
 o (.callS 80 [(t 34)]) 35 [0],
 m 35 33 [1],
 e 0 33 36 [2],
 e 1 33 37 [2],
 m 36 6 [3,1,0,1,2,3],
 m 37 7 (k [4,5] 5)]
def d57r6:List RO:=KG.map bare
def acZ:List RO:=[
 n 6 38,
 m 38 8 [0,0]]
def ac0:List RO:=[
 n 8 39,
 n 7 40,
 b .lss 39 40 41 [0,1]]
def Tx:List RO:=[
 n 0 44,
 c 44 45 [0],
 a 4 45 46 [1],
 a 1 46 47 [2],
 l 47 48 [3],
 n 8 49,
 x 5 48 49 50 [4,5],
 a 2 50 51 [6],
 l 51 52 [7],
 a 2 4 53 [],
 l 53 54 [9],
 b .eql 52 54 55 [8,10],
 m 55 56 [11],
 w 2 57 56 true [12],
 w 8 58 56 true [12],
 u 4 4 59 56 true [12],
 v 59 60 56 true [15,12],
 w 0 61 56 true [12],
 g (.nilCheck (t 61)) 62 56 true [17,12],
 u 4 62 63 56 true [18,12],
 u 1 63 64 56 true [19,12],
 v 64 65 56 true [20,12],
 w 8 66 56 true [12],
 g (.idxAddr 5 (t 65) (t 66)) 67 56 true [21,22,12],
 u 3 67 68 56 true [23,12],
 v 68 69 56 true [24,12],
 g (.bin .add (t 60) (t 69)) 70 56 true [16,25,12],
 g (.callv (t 57) [(t 58),(t 70),(.cq .aI)]) 71 56 true [13,14,26,12,12],
 g (.un .not (t 71)) 72 56 true [27,12],
 q 56 72 73 [12,28]]
def KH:List RO:=[
 n 8 42,
 o (.bin .add (t 42) (i 1)) 43 [0],
 m 43 8 [1,0,1]]
def Tz:List RO:=[
 o (.bin .eql (t 11) (i 3)) 75 [],
 m 75 74 [0]]
def TA:List RO:=[
 n 2 76,
 n 0 77,
 c 77 78 [1],
 a 10 78 79 [2],
 l 79 80 [3],
 a 4 4 81 [],
 l 81 82 [5],
 a 2 4 83 [],
 l 83 84 [7],
 n 0 85,
 c 85 86 [9],
 a 10 86 87 [10],
 l 87 88 [11],
 n 0 89,
 c 89 90 [13],
 a 11 90 91 [14],
 l 91 92 [15],
 o (.build [(.v (.int .i64 0)),(.v (.int .i64 0)),(.v (.int .i64 0))] [(0,1,(t 84)),(1,1,(t 88)),(2,1,(t 92))]) 93 [8,12,16],
 o (.bslice 1 3 [(.v (.int .i64 0)),(.v (.int .i64 0)),(.v (.int .i64 0))] [(0,3,(t 93))]) 94 [17],
 o (.callv (t 76) [(t 80),(t 82),(t 94)]) 95 [0,4,6,18]]
def TB:List RO:=[
 o (.bin .eql (t 11) (i 4)) 97 [],
 m 97 96 [0]]
def TC:List RO:=[
 n 0 98,
 c 98 99 [0],
 a 10 99 100 [1],
 l 100 101 [2],
 m 101 9 [3,0,1,2,3]]
def TD:List RO:=[
 n 9 102,
 n 0 103,
 c 103 104 [1],
 a 11 104 105 [2],
 l 105 106 [3],
 b .leq 102 106 107 [0,4]]
def TE:List RO:=[
 n 2 110,
 n 9 111,
 a 4 4 112 [],
 l 112 113 [2],
 a 2 4 114 [],
 l 114 115 [4],
 n 0 116,
 c 116 117 [6],
 a 10 117 118 [7],
 l 118 119 [8],
 n 9 120,
 o (.build [(.v (.int .i64 0)),(.v (.int .i64 0)),(.v (.int .i64 0))] [(0,1,(t 115)),(1,1,(t 119)),(2,1,(t 120))]) 121 [5,9,10],
 a 3 4 122 [],
 l 122 123 [12],
 n 9 124,
 n 0 125,
 c 125 126 [15],
 a 11 126 127 [16],
 l 127 128 [17],
 o (.build [(.v (.int .i64 0)),(.v (.int .i64 0)),(.v (.int .i64 0))] [(0,1,(t 123)),(1,1,(t 124)),(2,1,(t 128))]) 129 [13,14,18],
 o (.bslice 2 3 [(.v (.int .i64 0)),(.v (.int .i64 0)),(.v (.int .i64 0)),(.v (.int .i64 0)),(.v (.int .i64 0)),(.v (.int .i64 0))] [(0,3,(t 121)),(3,3,(t 129))]) 130 [11,19],
 o (.callv (t 110) [(t 111),(t 113),(t 130)]) 131 [0,1,3,20],
 o (.un .not (t 131)) 132 [21]]
def TF:List RO:=[
 n 9 108,
 o (.bin .add (t 108) (i 1)) 109 [0],
 m 109 9 [1,0,1]]
def d57:DC:=(j (y acT)
 (j (y acU)
 (.block 0 (j (y acV)
 (.cond (.tmp 12) (j (Y acW)
 (.cond (.tmp 22) (Y acX)
 .skip))
 (j (y acY)
 (.cond (.tmp 31) (j (y d57r6)
 (j (y acZ)
 (.block 1 (.loop (j (j (y ac0)
 (.cond (.tmp 41) .skip
 (.exit 1)))
 (j (.block 2 (j (Y Tx)
 (.cond (.tmp 73) .ret
 .skip)))
 (y KH)))))))
 (j (y Tz)
 (.cond (.tmp 74) (Y TA)
 (j (y TB)
 (.cond (.tmp 96) (j (y TC)
 (.block 3 (.loop (j (j (y TD)
 (.cond (.tmp 107) .skip
 (.exit 3)))
 (j (.block 4 (j (Y TE)
 (.cond (.tmp 132) .ret
 .skip)))
 (y TF))))))
 .skip)))))))))))
def pE:List bN:=[]
theorem c57 [Laid]:aQ Tryz.prog 57 133 d57 pE:=⟨Tryz.f57,by kernel_rfl,by kernel_rfl,by kernel_rfl,by kernel_rfl,by kernel_rfl⟩
def ac1:List RO:=[
 o (.box (t 1)) 4 []]
def ac2:List RO:=[
 a 0 4 8 [],
 l 8 9 [0],
 o (.bin .neq (t 9) (i 4)) 10 [1]]
def KI:List RO:=[
 n 0 11,
 L 6 4 12 [],
 n 2 13,
 o (.callS 57 [(t 11),(t 12),(t 13)]) 14 [0,1,2]]
def d87r2:List RO:=KI.map bare
def ac3:List RO:=[
 n 0 15,
 c 15 16 [0],
 a 10 16 17 [1],
 l 17 18 [2],
 n 0 19,
 c 19 20 [4],
 a 11 20 21 [5],
 l 21 22 [6],
 o (.bslice 2 1 [(.v (.int .i64 0)),(.v (.int .i64 0))] [(0,1,(t 18)),(1,1,(t 22))]) 23 [3,7],
 o (.len (t 23)) 24 [8],
 o (.bP (i 0)) 25 []]
def ac4:List RO:=[
 b .lss 25 24 26 []]
def ac5:List RO:=[
 x 1 23 25 27 [],
 l 27 28 [0],
 m 28 7 [1,0,1]]
def ac6:List RO:=[
 n 2 29,
 n 7 30,
 a 4 4 31 [],
 l 31 32 [2],
 a 2 4 33 [],
 l 33 34 [4],
 n 0 35,
 c 35 36 [6],
 a 10 36 37 [7],
 l 37 38 [8],
 n 7 39,
 o (.build [(.v (.int .i64 0)),(.v (.int .i64 0)),(.v (.int .i64 0))] [(0,1,(t 34)),(1,1,(t 38)),(2,1,(t 39))]) 40 [5,9,10],
 a 3 4 41 [],
 l 41 42 [12],
 n 7 43,
 n 0 44,
 c 44 45 [15],
 a 11 45 46 [16],
 l 46 47 [17],
 o (.build [(.v (.int .i64 0)),(.v (.int .i64 0)),(.v (.int .i64 0))] [(0,1,(t 42)),(1,1,(t 43)),(2,1,(t 47))]) 48 [13,14,18],
 o (.bslice 2 3 [(.v (.int .i64 0)),(.v (.int .i64 0)),(.v (.int .i64 0)),(.v (.int .i64 0)),(.v (.int .i64 0)),(.v (.int .i64 0))] [(0,3,(t 40)),(3,3,(t 48))]) 49 [11,19],
 o (.callv (t 29) [(t 30),(t 32),(t 49)]) 50 [0,1,3,20]]
def ac7:List RO:=[
 o (.bin .add (t 25) (i 1)) 51 [],
 m 51 25 [0]]
def d87:DC:=(j (y ac1)
 (j (j (y ac2)
 (.cond (.tmp 10) (j (y d87r2)
 .ret)
 .skip))
 (j (Y ac3)
 (.block 0 (.loop (j (y ac4)
 (j (.cond (.tmp 26) .skip
 (.exit 0))
 (j (.block 1 (j (y ac5)
 (Y ac6)))
 (y ac7)))))))))
def KJ:List bN:=[]
theorem c87 [Laid]:aQ Tryz.prog 87 52 d87 KJ:=⟨Tryz.f87,by kernel_rfl,by kernel_rfl,by kernel_rfl,by kernel_rfl,by kernel_rfl⟩
def HO:List RO:=[
 o (.bP (.cq (.v (.bool false)))) 8 []]
def tj:List RO:=[
 l 3 9 [],
 n 2 10,
 o (.call 59 [(t 9),(t 10)]) 11 [0,1],
 o (.un .not (t 11)) 12 [2]]
def TG:List RO:=[
 l 3 9 [],
 n 2 10,
 o (.callS 59 [(t 9),(t 10)]) 11 [0,1],
 o (.un .not (t 11)) 12 [2]]
def Nc:List RO:=[
 l 3 13 [],
 a 1 4 14 [],
 l 14 15 [1],
 l 3 16 [],
 n 1 17,
 n 2 18,
 o (.call 61 [(t 16),(t 17),(t 18)]) 19 [3,4,5],
 o (.call 60 [(t 13),(t 15),(t 19)]) 20 [0,2,6,6]]
def TH:List RO:=[
 l 3 13 [],
 a 1 4 14 [],
 l 14 15 [1],
 l 3 16 [],
 n 1 17,
 n 2 18,
 o (.callS 61 [(t 16),(t 17),(t 18)]) 19 [3,4,5],
 o (.callS 60 [(t 13),(t 15),(t 19)]) 20 [0,2,6,6]]
def Dd:List RO:=[
 o (.bP (.cq (.v (.bool true)))) 8 []]
def d58:DC:=(j (y HO)
 (j (j (y tj)
 (.cond (.tmp 12) (Y Nc)
 .skip))
 (j (y Dd)
 .ret)))
def rE:List bN:=[.slot 8]
theorem c58 [Laid]:aQ Tryz.prog 58 21 d58 rE:=⟨Tryz.f58,by kernel_rfl,by kernel_rfl,by kernel_rfl,by kernel_rfl,by kernel_rfl⟩
def ac8:List RO:=[
 o (.bP (.cq (.v (.bool false)))) 8 []]
def A8:List RO:=[
 l 3 9 [],
 n 2 10,
 o (.callS 59 [(t 9),(t 10)]) 11 [0,1],
 m 11 12 [2,2],
 v 3 13 12 true [3],
 w 2 14 12 true [3],
 g (.callS 89 [(t 13),(t 14)]) 15 12 true [4,5,3,3],
 q 12 15 16 [3,6]]
def d88r1:List RO:=A8.map bare
def KK:List RO:=[
 l 3 17 [],
 a 1 4 18 [],
 l 18 19 [1],
 l 3 20 [],
 n 1 21,
 n 2 22,
 o (.callS 61 [(t 20),(t 21),(t 22)]) 23 [3,4,5],
 o (.callS 60 [(t 17),(t 19),(t 23)]) 24 [0,2,6,6]]
def d88r2:List RO:=KK.map bare
def Nd:List RO:=[
 o (.bP (.cq (.v (.bool true)))) 8 []]
def d88:DC:=(j (y ac8)
 (j (j (y d88r1)
 (.cond (.tmp 16) (Y d88r2)
 .skip))
 (j (y Nd)
 .ret)))
def EY:List bN:=[.slot 8]
theorem c88 [Laid]:aQ Tryz.prog 88 25 d88 EY:=⟨Tryz.f88,by kernel_rfl,by kernel_rfl,by kernel_rfl,by kernel_rfl,by kernel_rfl⟩
def ac9:List RO:=[
 o (.box (t 0)) 1 []]
def A9:List RO:=[
 l 1 7 [],
 c 7 8 [0],
 a 15 8 9 [1],
 l 9 10 [2],
 o (.callS 85 [(t 10)]) 11 [3],
 m 11 6 [4],
 e 0 6 12 [5],
 e 1 6 13 [5],
 m 12 2 (k [6,4] 6),
 m 13 3 (k [7,8] 8)]
def d62r1:List RO:=A9.map bare
def TI:List RO:=[
 n 3 14,
 o (.un .not (t 14)) 15 [0]]
def ada:List RO:=[
 l 1 16 [],
 c 16 17 [0],
 a 13 17 18 [1],
 l 18 19 [2],
 n 2 20,
 x 1 19 20 21 (k [3,4] 4),
 s (.store 1 (t 21) (.cq (.v (.bool true)))) (k [5] 4)]
def adb:List RO:=[
 l 1 22 [],
 c 22 23 [0],
 a 0 23 24 [1],
 a 3 24 25 [2],
 l 25 26 [3],
 o (.len (t 26)) 27 [4],
 o (.bP (i 0)) 28 []]
def ade:List RO:=[
 b .lss 28 27 29 []]
def adf:List RO:=[
 x 6 26 28 30 [],
 L 6 30 31 [0],
 o (.alloc [(.v (.int .i64 0)),(.v (.int .i64 0)),(.v (.int .i64 0)),(.v (.int .i64 0)),(.v (.int .i64 0)),(.v (.int .i64 0))]) 5 [],
 S 6 5 31 [2,1,0,1,2]]
def adg:List RO:=[
 L 6 5 32 [],
 n 2 33,
 o (.call 86 [(t 32),(t 33)]) 34 [0,1],
 o (.un .not (t 34)) 35 [2]]
def KL:List RO:=[
 l 1 36 [],
 L 6 5 37 [],
 o (.mkFn (.func 88) [(t 1),(t 5)]) 38 [],
 o (.callS 87 [(t 36),(t 37),(t 38)]) 39 [0,1,2]]
def d62r8:List RO:=KL.map bare
def TJ:List RO:=[
 o (.bin .add (t 28) (i 1)) 40 [],
 m 40 28 [0]]
def d62:DC:=(j (y ac9)
 (.block 0 (.loop (.block 1 (j (y d62r1)
 (j (j (y TI)
 (.cond (.tmp 15) .ret
 .skip))
 (j (y ada)
 (j (y adb)
 (.block 2 (.loop (j (y ade)
 (j (.cond (.tmp 29) .skip
 (.exit 2))
 (j (.block 3 (j (y adf)
 (j (j (y adg)
 (.cond (.tmp 35) (.exit 3)
 .skip))
 (y d62r8))))
 (y TJ))))))))))))))
def TK:List bN:=[]
theorem c62 [Laid]:aQ Tryz.prog 62 41 d62 TK:=⟨Tryz.f62,by kernel_rfl,by kernel_rfl,by kernel_rfl,by kernel_rfl,by kernel_rfl⟩
def adh:List RO:=[
 o (.bP (.cq (.v (.bool false)))) 10 []]
def KM:List RO:=[
 l 3 11 [],
 n 1 12,
 n 2 13,
 o (.callS 61 [(t 11),(t 12),(t 13)]) 14 [0,1,2],
 L 2 4 15 [],
 o (.eqT true true [(.int .i64),(.int .i64)] (t 14) (t 15)) 16 [3,4]]
def d90r1:List RO:=KM.map bare
def adi:List RO:=[
 o (.bP (.cq (.v (.bool true)))) 10 []]
def adj:List RO:=[
 L 2 4 17 [],
 l 5 18 [],
 n 0 19,
 o (.build [(.v (.int .i64 0)),(.v (.int .i64 0)),(.v (.int .i64 0)),(.v (.int .i64 0))] [(0,2,(t 17)),(2,1,(t 18)),(3,1,(t 19))]) 20 [0,1,2],
 S 4 6 20 [3,0,1,2,3]]
def adk:List RO:=[
 o (.bP (.cq (.v (.bool false)))) 10 []]
def d90:DC:=(j (y adh)
 (j (j (Y d90r1)
 (.cond (.tmp 16) (j (y adi)
 .ret)
 .skip))
 (j (y adj)
 (j (y adk)
 .ret))))
def KO:List bN:=[.slot 10]
theorem c90 [Laid]:aQ Tryz.prog 90 21 d90 KO:=⟨Tryz.f90,by kernel_rfl,by kernel_rfl,by kernel_rfl,by kernel_rfl,by kernel_rfl⟩
def adl:List RO:=[
 o (.box (t 0)) 2 [],
 o (.alloc [(.v (.int .i64 0)),(.v (.int .i64 0)),(.v (.int .i64 0)),(.v (.int .i64 0))]) 4 []]
def adm:List RO:=[
 l 2 9 [],
 c 9 10 [0],
 a 12 10 11 [1],
 l 11 12 [2],
 n 1 13,
 x 2 12 13 14 [3,4],
 L 2 14 15 [5],
 o (.alloc [(.v (.int .i64 0)),(.v (.int .i64 0))]) 5 [],
 S 2 5 15 (k [7,6] 7)]
def adn:List RO:=[
 o (.load 4 true (.cq (.gz [(.int .i64 1099511627776),(.int .i64 0),(.int .i64 (-1)),(.int .i64 0)] 0))) 16 [],
 o (.alloc [(.v (.int .i64 0)),(.v (.int .i64 0)),(.v (.int .i64 0)),(.v (.int .i64 0))]) 6 [],
 S 4 6 16 [1,0,0,1]]
def ado:List RO:=[
 l 2 17 [],
 c 17 18 [0],
 a 0 18 19 [1],
 a 3 19 20 [2],
 l 20 21 [3],
 o (.len (t 21)) 22 [4],
 o (.bP (i 0)) 23 []]
def adp:List RO:=[
 b .lss 23 22 24 []]
def adq:List RO:=[
 n 23 25,
 x 6 21 23 26 [],
 L 6 26 27 [1],
 o (.alloc [(.v (.int .i64 0))]) 7 [],
 o (.alloc [(.v (.int .i64 0)),(.v (.int .i64 0)),(.v (.int .i64 0)),(.v (.int .i64 0)),(.v (.int .i64 0)),(.v (.int .i64 0))]) 8 [],
 S 1 7 25 (k [3,0] 4),
 S 6 8 27 (k [4,2,5] 5)]
def HP:List RO:=[
 a 1 8 28 [],
 l 28 29 [0],
 n 1 30,
 b .neq 29 30 31 [1,2],
 m 31 32 [3],
 u 0 5 33 32 false [4],
 v 33 34 32 false [5,4],
 g (.bin .geq (t 34) (i 1099511627776)) 35 32 false [6,4],
 p 32 35 36 [4,7],
 m 36 37 [8,4],
 u 2 6 38 37 false [9],
 v 38 39 37 false [10,9],
 g (.bin .geq (t 39) (i 0)) 40 37 false [11,9],
 p 37 40 41 [9,12]]
def KP:List RO:=[
 l 2 42 [],
 L 6 8 43 [],
 o (.mkFn (.func 90) [(t 2),(t 5),(t 7),(t 6)]) 44 [],
 o (.callS 57 [(t 42),(t 43),(t 44)]) 45 [0,1,2]]
def d63r7:List RO:=KP.map bare
def TL:List RO:=[
 o (.bin .add (t 23) (i 1)) 46 [],
 m 46 23 [0]]
def adr:List RO:=[
 L 4 6 47 [],
 S 4 4 47 [0,0]]
def d63:DC:=(j (y adl)
 (j (y adm)
 (j (y adn)
 (j (j (y ado)
 (.block 0 (.loop (j (y adp)
 (j (.cond (.tmp 24) .skip
 (.exit 0))
 (j (.block 1 (j (y adq)
 (j (j (y HP)
 (.cond (.tmp 41) (.exit 1)
 .skip))
 (y d63r7))))
 (y TL)))))))
 (j (y adr)
 .ret)))))
def TM:List bN:=[.cell 4 4 true]
theorem c63:aQ Tryz.prog 63 48 d63 TM:=⟨Tryz.f63,by kernel_rfl,by kernel_rfl,by kernel_rfl,by kernel_rfl,by kernel_rfl⟩
def ads:List RO:=[
 o (.bP (.cq (.v (.bool false)))) 5 []]
def adt:List RO:=[
 l 2 6 [],
 c 6 7 [0],
 a 12 7 8 [1],
 l 8 9 [2],
 n 0 10,
 x 2 9 10 11 [3,4],
 L 2 11 12 [5],
 l 2 13 [],
 c 13 14 [7],
 a 12 14 15 [8],
 l 15 16 [9],
 n 1 17,
 x 2 16 17 18 [10,11],
 L 2 18 19 [12],
 o (.call 56 [(t 12),(t 19)]) 20 [6,13],
 m 20 5 (k [14,14] 14)]
def d55:DC:=(j (y ads)
 (j (Y adt)
 .ret))
def TN:List bN:=[.slot 5]
theorem c55 [Laid]:aQ Tryz.prog 55 21 d55 TN:=⟨Tryz.f55,by kernel_rfl,by kernel_rfl,by kernel_rfl,by kernel_rfl,by kernel_rfl⟩
def HQ:List RO:=[
 o (.box (t 0)) 5 [],
 o (.box (t 1)) 6 [],
 o (.box (t 2)) 7 [],
 o (.bP (.cq .aI)) 10 []]
def HR:List RO:=[
 L 4 5 17 [],
 L 3 6 18 [],
 L 3 7 19 [],
 n 3 20,
 n 4 21,
 a 1 5 22 [],
 l 22 23 [5],
 o (.mkSlice 55 2 16 [(.int .i64 0),(.int .i64 0)] (t 23)) 24 [6,6],
 a 1 5 25 [],
 l 25 26 [8],
 o (.mkSlice 4 1 1 [(.bool false)] (t 26)) 27 [9,9],
 a 1 5 28 [],
 l 28 29 [11],
 o (.mkSlice 3 1 8 [(.int .i64 0)] (t 29)) 30 [12,12],
 o (.build [(.v (.int .i64 0)),(.v (.int .i64 0)),(.v (.int .i64 0)),.aI,(.v (.int .i64 0)),.aI,.aI,(.v (.int .i64 0)),(.v (.int .i64 0)),.aI,(.v (.int .i64 0)),(.v (.int .i64 0)),.aI,.aI,.aI,(.v (.raw (Go.Value.pointer Option.none)))] [(0,4,(t 17)),(4,3,(t 18)),(7,3,(t 19)),(10,1,(t 20)),(11,1,(t 21)),(12,1,(t 24)),(13,1,(t 27)),(14,1,(t 30))]) 31 [0,1,2,3,4,7,10,13],
 o (.box (t 31)) 32 [14],
 o (.alloc [(.v (.raw (Go.Value.pointer Option.none)))]) 11 [],
 S 1 11 32 (k [16,15] 16)]
def HS:List RO:=[
 l 11 33 [],
 o (.mkFn (.func 55) [(t 11)]) 34 [],
 o (.call 54 [(t 34)]) 35 [1],
 c 33 36 [0,0,1,2],
 a 15 36 37 [3,0,1,2],
 S 1 37 35 [4,2,2,0,1,2]]
def HT:List RO:=[
 l 11 38 [],
 c 38 39 [0],
 a 12 39 40 [1],
 l 40 41 [2],
 o (.len (t 41)) 42 [3],
 o (.bP (i 0)) 43 []]
def HU:List RO:=[
 b .lss 43 42 44 []]
def HV:List RO:=[
 n 43 45,
 m 45 12 [0,0]]
def HW:List RO:=[
 l 11 46 [],
 c 46 47 [0],
 a 12 47 48 [1],
 l 48 49 [2],
 n 12 50,
 o (.addOff 0 (.cq (.gz [(.int .i64 1099511627776),(.int .i64 0),(.int .i64 (-1)),(.int .i64 0)] 0))) 51 [],
 L 2 51 52 [5],
 x 2 49 50 53 (k [3,4] 6),
 S 2 53 52 (k [7,6] 6)]
def vA:List RO:=[
 l 11 54 [],
 c 54 55 [0],
 a 14 55 56 [1],
 l 56 57 [2],
 n 12 58,
 x 1 57 58 59 (k [3,4] 4),
 s (.store 1 (t 59) (i (-1))) (k [5] 4)]
def HX:List RO:=[
 o (.bin .add (t 43) (i 1)) 60 [],
 m 60 43 [0]]
def HY:List RO:=[
 a 3 5 61 [],
 l 61 62 [0],
 o (.len (t 62)) 63 [1],
 o (.bP (i 0)) 64 []]
def Ba:List RO:=[
 b .lss 64 63 65 []]
def tY:List RO:=[
 x 6 62 64 66 [],
 L 6 66 67 [0],
 o (.alloc [(.v (.int .i64 0)),(.v (.int .i64 0)),(.v (.int .i64 0)),(.v (.int .i64 0)),(.v (.int .i64 0)),(.v (.int .i64 0))]) 14 [],
 S 6 14 67 [2,1,0,1,2]]
def EZ:List RO:=[
 l 11 68 [],
 L 6 14 69 [],
 o (.mkFn (.func 58) [(t 11),(t 14)]) 70 [],
 o (.call 57 [(t 68),(t 69),(t 70)]) 71 [0,1,2]]
def Nf:List RO:=[
 l 11 68 [],
 L 6 14 69 [],
 o (.mkFn (.func 58) [(t 11),(t 14)]) 70 [],
 o (.callS 57 [(t 68),(t 69),(t 70)]) 71 [0,1,2]]
def Bb:List RO:=[
 o (.bin .add (t 64) (i 1)) 72 [],
 m 72 64 [0]]
def Bc:List RO:=[
 l 11 73 [],
 o (.call 62 [(t 73)]) 74 [0]]
def Ng:List RO:=[
 l 11 73 [],
 o (.callS 62 [(t 73)]) 74 [0]]
def Bd:List RO:=[
 o (.bP (.cq .aI)) 15 []]
def Be:List RO:=[
 a 1 5 75 [],
 l 75 76 [0],
 o (.bP (i 0)) 77 []]
def Bf:List RO:=[
 b .lss 77 76 78 []]
def Bg:List RO:=[
 n 77 79,
 m 79 16 [0,0]]
def E0:List RO:=[
 n 15 80,
 l 11 81 [],
 n 16 82,
 o (.callS 63 [(t 81),(t 82)]) 83 [1,2],
 o (.bslice 1 4 [(.v (.int .i64 0)),(.v (.int .i64 0)),(.v (.int .i64 0)),(.v (.int .i64 0))] [(0,4,(t 83))]) 84 [3],
 o (.append 57 4 32 (t 80) (t 84)) 85 [0,4,3],
 m 85 15 (k [5,5] 5)]
def d35r19:List RO:=E0.map bare
def TO:List RO:=[
 o (.bin .add (t 77) (i 1)) 86 [],
 m 86 77 [0]]
def TP:List RO:=[
 n 15 87,
 m 87 10 [0,0]]
def d35:DC:=(j (y HQ)
 (j (Y HR)
 (j (Y HS)
 (j (j (y HT)
 (.block 0 (.loop (j (y HU)
 (j (.cond (.tmp 44) .skip
 (.exit 0))
 (j (.block 1 (j (y HV)
 (j (Y HW)
 (y vA))))
 (y HX)))))))
 (j (j (y HY)
 (.block 2 (.loop (j (y Ba)
 (j (.cond (.tmp 65) .skip
 (.exit 2))
 (j (.block 3 (j (y tY)
 (y EZ)))
 (y Bb)))))))
 (j (y Bc)
 (j (y Bd)
 (j (j (y Be)
 (.block 4 (.loop (j (y Bf)
 (j (.cond (.tmp 78) .skip
 (.exit 4))
 (j (.block 5 (j (y Bg)
 (y d35r19)))
 (y TO)))))))
 (j (y TP)
 .ret)))))))))
def Bh:List bN:=[.slot 10]
theorem c35:aQ Tryz.prog 35 88 d35 Bh:=⟨Tryz.f35,by kernel_rfl,by kernel_rfl,by kernel_rfl,by kernel_rfl,by kernel_rfl⟩
structure bC where
 (kind head a b bE origin:Int)
 deriving DecidableEq,Inhabited
structure aG where
 (aV an start:Int)
 rules:List bC
structure br where
 (cost size:Int)
 deriving DecidableEq,Inhabited
structure Cell where
 (cost size ez arg:Int)
 deriving DecidableEq,Inhabited
structure bV where
 (an aN:Int)
 cells:List Cell
abbrev Cell.val(c:Cell):br:=⟨c.cost,c.size⟩
theorem ed:ay Tryz.prog (aW []):=ay.nil
def bC.enc(r:bC):List T:=[ti r.kind,ti r.head,ti r.a,ti r.b,ti r.bE,ti r.origin]
def aS(l:List bC):List (List T):=l.map bC.enc
def aG.enc(n:aG):T:=.agg [ti n.aV,ti n.an,ti n.start,.sl (aS n.rules)]
def bI(l:List br):List (List T):=l.map λv=>[ti v.cost,ti v.size]
def Cell.enc(c:Cell):List T:=[ti c.cost,ti c.size,ti c.ez,ti c.arg]
def aL(l:List Cell):List (List T):=l.map Cell.enc
def bV.enc(c:bV):T:=.agg [ti c.an,ti c.aN,.sl (aL c.cells)]
def pF:List T->bC
 |[a,b,c,d,e,f]=>⟨cX a,cX b,cX c,cX d,cX e,cX f⟩
 |_=>default
def vC(l:List (List T)):List bC:=l.map pF
def la(l:List (List T)):List br:=l.map fun|[a,b]=>⟨cX a,cX b⟩|_=>default
def E3:List T->Cell
 |[a,b,c,d]=>⟨cX a,cX b,cX c,cX d⟩
 |_=>default
def jW(l:List (List T)):List Cell:=l.map E3
def nR:T->aG
 |.agg [a,b,c,.sl r]=>⟨cX a,cX b,cX c,vC r⟩
 |_=>⟨0,0,0,[]⟩
def pG:T->bV
 |.agg [a,b,.sl r]=>⟨cX a,cX b,jW r⟩
 |_=>⟨0,0,[]⟩
@[simp] theorem HZ(r:bC):pF r.enc=r:=by simp[pF,bC.enc,cX]
@[simp] theorem Xz(l:List bC):vC (aS l)=l:=fD HZ l
@[simp] theorem adu(l:List br):la (bI l)=l:=fD (λ_=>rfl) l
@[simp] theorem H0(r:Cell):E3 r.enc=r:=by simp[E3,Cell.enc,cX]
@[simp] theorem XA(l:List Cell):jW (aL l)=l:=fD H0 l
@[simp] theorem decN_enc'(a b c:Int)(l:List bC):nR (.agg [ti a,ti b,ti c,.sl (aS l)])=⟨a,b,c,l⟩:=by simp[nR,cX]
@[simp] theorem decN_enc(n:aG):nR n.enc=n:=by simp[aG.enc]
@[simp] theorem decC_enc'(a b:Int)(l:List Cell):pG (.agg [ti a,ti b,.sl (aL l)])=⟨a,b,l⟩:=by simp[pG,cX]
@[simp] theorem decC_enc(n:bV):pG n.enc=n:=by simp[bV.enc]
@[simp] theorem rulesT_len(l:List bC):(aS l).length=l.length:=by simp[aS]
@[simp] theorem valsT_len(l:List br):(bI l).length=l.length:=by simp[bI]
@[simp] theorem cellsT_len(l:List Cell):(aL l).length=l.length:=by simp[aL]
theorem fT{l:List bC}{y:Nat}(h:y<l.length):DM.rowAt (aS l) y=(l.getD y default).enc:=by simp[DM.rowAt,aS,h]
theorem dP{l:List br}{y:Nat}(h:y<l.length):DM.rowAt (bI l) y=[ti (l.getD y default).cost,ti (l.getD y default).size]:=by simp[DM.rowAt,bI,h]
theorem fq{l:List Cell}{y:Nat}(h:y<l.length):DM.rowAt (aL l) y=(l.getD y default).enc:=by simp[DM.rowAt,aL,h]
@[simp] theorem OV:bI []=[]:=rfl
@[simp] theorem cellsT_nil:aL []=[]:=rfl
theorem bw{α:Type} [Inhabited α]{l:List α}{i:Nat}(h:i<l.length):l.getD i default∈l:=by simp[List.getD,h]
def br.lt(a b:br):Prop:=a.cost<b.cost\/(a.cost=b.cost/\a.size<b.size)
instance(a b:br):Decidable (a.lt b):=by unfold br.lt;infer_instance
theorem t92(u v:br):aT Tryz.prog 92 [.agg [ti u.cost,ti u.size],.agg [ti v.cost,ti v.size]] (.bool (decide (u.lt v))):=by
 obtain⟨a,b⟩:=u;obtain⟨c,d⟩:=v;obtain⟨c1,bb⟩:∃c1:Bool,decide ((⟨a,b⟩:br).lt ⟨c,d⟩)=c1:=⟨_,rfl⟩;rw[bb];simp only[br.lt]at bb;have aw:=ed;refine c92.ok (by simp) (aJ ?_);simp;refine aa.ab aw fw [2,3] ?_;simp[Zf];refine aa.le (Le.aC (o:=[]) (l:=[(2,.v (.box [ti a,ti b])),(3,.v (.box [ti c,ti d]))]) (nxt':=1200) ?_ ?_ ?_ ?_) ?_;iterate 4(·simp)
 refine aa.bY aw fw [(4,.v (.bool c1))] ?_ ?_
 ·by_cases q1:a<c
  ·have:c1=true:=by rw[<-bb];simp[q1]
   simp[GX,q1,this]
  ·by_cases q2:a=c
   ·subst q2;by_cases q3:b<d
    ·have:c1=true:=by rw[<-bb];simp[q3]
     simp[GX,q3,this]
    ·have:c1=false:=by rw[<-bb];simp[q3]
     simp[GX,q3,this]
   ·have:c1=false:=by rw[<-bb];simp[q1,q2]
    simp[GX,q1,q2,this]
 refine aa.ret ?_;simp[Ro]
def en:Int->Int->List br->br
 |c,s,[]=>⟨c,s⟩
 |c,s,v::l=>en (min (c+v.cost) 1099511627776) (min (s+v.size) 1099511627776) l
def comb(c:Int)(l:List br):br:=if(en c 1 l).cost>=1099511627776 then⟨1099511627776,0⟩else en c 1 l
theorem Bi(c s:Int)(l:List br)(v:br):en c s (l++[v])=⟨min ((en c s l).cost+v.cost) 1099511627776,min ((en c s l).size+v.size) 1099511627776⟩:=by
 induction l generalizing c s with
 |nil=>rfl
 |cons x l ih=>simp only[ZaH,en,ih]
def kL(v:br):Prop:=0<=v.cost/\v.cost<=1099511627776/\0<=v.size/\v.size<=1099511627776
theorem rF{l:List br}(h:∀v∈l,kL v):∀{c s:Int},0<=c->c<=4000000000000->0<=s->s<=1099511627776->0<=(en c s l).cost/\(en c s l).cost<=4000000000000/\0<=(en c s l).size/\(en c s l).size<=1099511627776:=by
 induction l with
 |nil=>intro c s h1 h2 h3 h4;exact⟨h1,h2,h3,h4⟩
 |cons x l ih=>
  intro c s h1 h2 h3 h4;obtain⟨g1,g2,g3,g4⟩:=h x (by simp);exact ih (λv hv=>h v (by simp[hv])) (by omega) (by omega) (by omega) (by omega)
theorem iE{c:Int}{l:List br}(h:∀v∈l,kL v)(h1:0<=c)(h2:c<=4000000000000):kL (comb c l):=by
 have:=rF (c:=c) (s:=1) h h1 h2 (by omega) (by omega);unfold comb kL;split
 ·simp
 ·omega
theorem cM{α:Type} [Inhabited α]{l:List α}{i:Nat}(h:i<l.length):l.take (i+1)=l.take i++[l.getD i default]:=by
 rw[Zbw,Zan h];simp[List.getD,h]
theorem t69(c:Int)(l:List br)(h:∀v∈l,kL v)(h1:0<=c)(h2:c<=4000000000000)(h3:l.length<=1000000):aT Tryz.prog 69 [ti c,.sl (bI l)] (.agg [ti (comb c l).cost,ti (comb c l).size]):=by
 have aw:=ed;refine c69.ok (by simp) (aJ ?_);simp;refine aa.ab aw fw [0,1,4] ?_;simp[Zg];refine aa.ab aw fw [1,4,5,6] ?_;simp[Zh];refine aa.seq ?_;refine aa.ab aw fw [1,4,5,6,7] ?_;simp[Zi];refine aa.block ?_;refine aa.loop (λy:Nat=>⟨DM.look [(1,.v (.sl (bI l))),(4,.ptr 1005 0),(5,.v (ti (en c 1 (l.take y)).cost)),(6,.v (ti (en c 1 (l.take y)).size)),(7,.v (ti y))],cA [(1005,.box [.v (ti 0),.v (ti 0)])],2000,1000,[]⟩)
  (λy=>y<=l.length) (λy=>l.length-y) 0 (Le.aC ?_ ?_ ?_ ?_) (by simp) (λy hy=>?_)
 iterate 3(·simp)
 ·simp[en]
 refine aa.seq ?_;refine aa.ab aw fw [1,4,5,6,7,12] ?_;simp[Zj];refine aa.cond rfl (λbM=>?_) (λbM=>?_)
 ·have bM:y<l.length:=by simpa using bM
  refine aa.skip ?_;simp;refine aa.seq ?_;refine aa.block ?_;have rv:=dP bM;obtain⟨v,hv⟩:∃v,l.getD y default=v:=⟨_,rfl⟩;rw[hv]at rv;have hov:=h v (by rw[<-hv];exact bw bM);obtain⟨o1,o2,o3,o4⟩:=hov;obtain⟨b1,b2,b3,b4⟩:=rF (c:=c) (s:=1) (l:=l.take y) (λv hv=>h v (Zav hv)) h1 h2 (by omega) (by omega);refine aa.dp aw fw [1,4,5,6,7] ?_;simp[Zk,bM,rv];refine aa.dp aw fw [1,4,5,6,7] ?_;simp[Zl];rw[au (by omega),au (by omega),au (by omega)];refine⟨y+1,Le.aC ?_ ?_ ?_ ?_,by omega,by omega⟩;iterate 3(·simp)
  ·simp[cM bM,Bi,-List.getD_eq_getElem?_getD,hv]
 ·have fl:y=l.length:=by simp at bM;omega
  subst fl;rw[Zbn];refine aa.exit ?_;simp;refine aa.seq ?_;refine aa.ab aw fw [4,5,6,32] ?_;simp[Zm];refine aa.cond rfl (λh7=>?_) (λh7=>?_)
  ·have h7:(en c 1 l).cost>=1099511627776:=by simpa using h7
   refine aa.ab aw fw [4] ?_;simp[Zn];refine aa.ret ?_;simp[Kg,comb,h7]
  ·have h7:¬(en c 1 l).cost>=1099511627776:=by simpa using h7
   refine aa.skip ?_;simp;refine aa.ab aw fw [4] ?_;simp[Zo];refine aa.ret ?_;simp[Kg,comb,h7]
def fc:Cell:=⟨1099511627776,0,-1,0⟩
theorem t42:aT Tryz.prog 42 [] (.agg fc.enc):=by
 have aw:=ed;refine c42.ok (by simp) (aJ ?_);simp;refine aa.ab aw fw [0] ?_;simp[aak];refine aa.ab aw fw [0] ?_;simp[aal];refine aa.ret ?_;simp[RL,fc,Cell.enc]
def dQ(n s:Int):Int:=n*s*(s+1)/2
theorem cN{a b A B:Int}(h1:0<=a)(h2:a<=A)(h3:0<=b)(h4:b<=B):0<=a*b/\a*b<=A*B:=by
 refine⟨Zch h1 h3, ?_⟩;exact Int.mul_le_mul h2 h4 h3 (by omega)
theorem t23(n s:Int)(h1:0<=n)(h2:n<=1000000)(h3:0<=s)(h4:s<=1000000):aT Tryz.prog 23 [ti n,ti s] (ti (dQ n s)):=by
 have k1:=cN h1 h2 h3 h4;have k2:=cN (b:=s+1) (B:=1000001) k1.1 k1.2 (by omega) (by omega);have w1:IntKind.i64.wrap (n*s)=n*s:=au (by omega);have w2:IntKind.i64.wrap (s+1)=s+1:=au (by omega);have w3:IntKind.i64.wrap (n*s*(s+1))=n*s*(s+1):=au (by omega);have w4:IntKind.i64.wrap ((n*s*(s+1)).tdiv 2)=n*s*(s+1)/2:=by rw[p0 k2.1];exact au (by omega)
 have aw:=ed;refine c23.ok (by simp) (aJ ?_);simp;refine aa.ab aw fw [0,1] ?_;simp[aam];refine aa.ab aw fw [4] ?_;simp[aan,w1,w2,w3,w4];refine aa.ret ?_;simp[RM,dQ]
def pre(st:Int):Nat->Int
 |0=>0
 |n+1=>pre st n+st-n
theorem dY{st:Int}(h:st<=1000):∀n:Nat,(n:Int)<=st->0<=pre st n/\pre st n<=1000*n
 |0,_=>by simp[pre]
 |n+1,hn=>by
  have:=dY h n (by omega);simp only[pre];omega
def cJ(n st:Int)(f t:Nat):Int:=(pre st f+t-f)*n
theorem t25(n st:Int)(f t:Nat)(h1:0<=n)(h2:n<=1000)(h3:st<=1000)(h4:(f:Int)<=st)(h5:t<=1000)(h6:f<=t):aT Tryz.prog 25 [ti n,ti st,ti f,ti t] (ti (cJ n st f t)):=by
 have aw:=ed;refine c25.ok (by simp) (aJ ?_);simp;refine aa.ab aw fw [0,1,2,3] ?_;simp[aao];refine aa.ab aw fw [0,1,2,3,9] ?_;simp[aap];refine aa.seq ?_;refine aa.ab aw fw [0,1,2,3,9,10] ?_;simp[aaq];refine aa.block ?_;refine aa.loop (λy:Nat=>⟨DM.look [(0,.v (ti n)),(1,.v (ti st)),(2,.v (ti f)),(3,.v (ti t)),(9,.v (ti (pre st y))),(10,.v (ti y))],cA [],2000,1000,[]⟩)
  (λy=>y<=f) (λy=>f-y) 0 (Le.aC (o:=[]) ?_ ?_ ?_ ?_) (by simp) (λy hy=>?_)
 iterate 3(·simp)
 ·simp[pre]
 refine aa.seq ?_;refine aa.ab aw fw [0,1,2,3,9,10,13] ?_;simp[aar];refine aa.cond rfl (λbM=>?_) (λbM=>?_)
 ·have bM:y<f:=by simpa using bM
  refine aa.skip ?_;simp;refine aa.seq ?_;refine aa.block ?_;refine aa.dp aw fw [0,1,2,3,9,10] ?_;simp[aas];refine aa.dp aw fw [0,1,2,3,9,10] ?_;simp[aat];have hb:=dY h3 y (by omega);have kv:=dY h3 (y+1) (by omega);simp only[pre]at kv;rw[au (x:=pre st y+st) (by omega),au (x:=pre st y+st-y) (by omega),au (x:=(y:Int)+1) (by omega)];refine⟨y+1,Le.aC (o:=[]) ?_ ?_ ?_ ?_,by omega,by omega⟩;iterate 3(·simp)
  ·simp[pre]
 ·have fl:y=f:=by simp at bM;omega
  subst fl;have hb:=dY h3 y (by omega);have hm:=cN (a:=pre st y+t-y) (A:=2000000) (b:=n) (B:=1000) (by omega) (by omega) h1 h2;refine aa.exit ?_;simp;refine aa.ab aw fw [8] ?_;simp[aau,au (x:=pre st y+t) (by omega),au (x:=pre st y+t-y) (by omega),au (x:=(pre st y+t-y)*n) (by omega)];refine aa.ret ?_;simp[RN,cJ]
def dD(a:Cell)(v:br)(r g:Int):Cell:=if v.cost>=1099511627776 then a else if v.lt a.val\/(v=a.val/\(r<a.ez\/(r=a.ez/\g<a.arg)))then⟨v.cost,v.size,r,g⟩else a
abbrev s92:DM.Spec:=cy (λts=>∃a b c d,ts=[.agg [ti a,ti b],.agg [ti c,ti d]]) (fun|[.agg [.int _ a,.int _ b],.agg [.int _ c,.int _ d]]=>.bool (decide ((⟨a,b⟩:br).lt ⟨c,d⟩))|_=>.bool false) true
theorem ok92:ay Tryz.prog (aW [(92,s92)]):=by
 refine ay.cons ay.nil ?_;rintro ts ⟨a,b,c,d,rfl⟩;exact⟨t92 ⟨a,b⟩ ⟨c,d⟩,λ_=>rfl⟩
theorem t68(a:Cell)(v:br)(r g:Int):aT Tryz.prog 68 [.agg a.enc,.agg [ti v.cost,ti v.size],ti r,ti g] (.agg (dD a v r g).enc):=by
 obtain⟨ac,az,ar,ag⟩:=a;obtain⟨vc,vs⟩:=v;obtain⟨R,hR⟩:∃R,dD ⟨ac,az,ar,ag⟩ ⟨vc,vs⟩ r g=R:=⟨_,rfl⟩;rw[hR];unfold dD at hR;simp only[Cell.val,br.mk.injEq]at hR;have aw:=ok92;refine c68.ok (by simp) (aJ ?_);simp[Cell.enc];refine aa.ab aw fw [2,3,4,5,8] ?_;simp[aav];refine aa.le (Le.aC (o:=[(1009,.box [.v (ti 0),.v (ti 0),.v (ti 0),.v (ti 0)])]) (l:=[(2,.v (ti r)),(3,.v (ti g)),(4,.v (.box [ti ac,ti az,ti ar,ti ag])),(5,.v (.box [ti vc,ti vs])),(8,.ptr 1009 0)]) (nxt':=1200) ?_ ?_ ?_ ?_) ?_;iterate 4(·simp)
 refine aa.seq ?_;refine aa.ab aw fw [2,3,4,5,8,13] ?_;simp[aaw];refine aa.cond rfl (λh1=>?_) (λh1=>?_)
 ·have h1:vc>=1099511627776:=by simpa using h1
  refine aa.ab aw fw [8] ?_;simp[aax];refine aa.ret ?_;rw[if_pos h1]at hR;subst hR;simp[EN]
 ·have h1:¬vc>=1099511627776:=by simpa using h1
  refine aa.skip ?_;simp;rw[if_neg h1]at hR;obtain⟨c1,bb⟩:∃c1:Bool,decide ((⟨vc,vs⟩:br).lt ⟨ac,az⟩)=c1:=⟨_,rfl⟩;refine aa.ab aw fw [2,3,4,5,8,9] ?_;simp[aay,bb];obtain⟨c2,dG⟩:∃c2:Bool,decide ((vc=ac/\vs=az)/\(r<ar\/(r=ar/\g<ag)))=c2:=⟨_,rfl⟩;refine aa.bY aw fw [(2,.v (ti r)),(3,.v (ti g)),(4,.v (.box [ti ac,ti az,ti ar,ti ag])),(5,.v (.box [ti vc,ti vs])),(8,.ptr 1009 0),(9,.v (.bool c1)),(10,.v (.bool c2))] ?_ ?_
  ·by_cases q1:vc=ac/\vs=az
   ·obtain⟨rfl,rfl⟩:=q1;by_cases q2:r<ar
    ·have:c2=true:=by rw[<-dG];simp[q2]
     simp[Db,q2,this]
    ·by_cases q3:r=ar
     ·subst q3;by_cases q4:g<ag
      ·have:c2=true:=by rw[<-dG];simp[q4]
       simp[Db,q4,this]
      ·have:c2=false:=by rw[<-dG];simp[q4]
       simp[Db,q4,this]
     ·have:c2=false:=by rw[<-dG];simp[q2,q3]
      simp[Db,q2,q3,this]
   ·have:c2=false:=by rw[<-dG];simp[q1]
    simp[Db,q1,this]
  refine aa.seq ?_;obtain⟨c3,XB⟩:∃c3:Bool,(c1||c2)=c3:=⟨_,rfl⟩;refine aa.bY aw fw [(2,.v (ti r)),(3,.v (ti g)),(4,.v (.box [ti ac,ti az,ti ar,ti ag])),(5,.v (.box [ti vc,ti vs])),(8,.ptr 1009 0),(44,.v (.bool c3))] ?_ ?_
  ·cases c1<;>simp[aaz]<;>simp at XB<;>simp[XB]
  refine aa.cond rfl (λh5=>?_) (λh5=>?_)
  ·have h5:c3=true:=by simpa using h5
   rw[h5,<-bb,<-dG]at XB;simp only[ZbL,decide_eq_true_eq]at XB;rw[if_pos XB]at hR;refine aa.ab aw fw [8] ?_;simp[aaA];refine aa.ret ?_;subst hR;simp[EN]
  ·have h5:c3=false:=by simpa using h5
   rw[h5,<-bb,<-dG]at XB;simp only[Bool.or_eq_false_iff,decide_eq_false_iff_not]at XB;rw[if_neg (λh=>h.elim XB.1 XB.2)]at hR;refine aa.skip ?_;simp;refine aa.ab aw fw [8] ?_;simp[aaB];refine aa.ret ?_;subst hR;simp[EN]
@[simp] theorem KV{a b:List bC}:aS a=aS b↔a=b:=⟨λh=>by have:=congrArg vC h;simpa using this,λh=>by rw[h]⟩
@[simp] theorem oN{a b:List br}:bI a=bI b↔a=b:=⟨λh=>by have:=congrArg la h;simpa using this,λh=>by rw[h]⟩
@[simp] theorem KW{a b:List Cell}:aL a=aL b↔a=b:=⟨λh=>by have:=congrArg jW h;simpa using this,λh=>by rw[h]⟩
@[simp] theorem Dm{a b:List Int}:aB a=aB b↔a=b:=⟨λh=>by have:=congrArg fu h;simpa using this,λh=>by rw[h]⟩
@[simp] theorem O0{a b:List bn}:ba a=ba b↔a=b:=⟨λh=>by have:=congrArg zt h;simpa using this,λh=>by rw[h]⟩
@[simp] theorem opsT_inj{a b:List (Int×Int)}:cR a=cR b↔a=b:=⟨λh=>by have:=congrArg xy h;simpa using this,λh=>by rw[h]⟩
@[simp] theorem colsT_inj{a b:List bD}:aZ a=aZ b↔a=b:=⟨λh=>by have:=congrArg eS h;simpa using this,λh=>by rw[h]⟩
@[simp] theorem O1{l:List br}:[]=bI l↔l=[]:=by rw[<-OV,oN];exact eq_comm
@[simp] theorem one_valsT{a b:Int}{l:List br}:[[ti a,ti b]]=bI l↔l=[⟨a,b⟩]:=by rw[show [[ti a,ti b]]=bI [⟨a,b⟩]from rfl,oN];exact eq_comm
@[simp] theorem two_valsT{a b c d:Int}{l:List br}:[[ti a,ti b],[ti c,ti d]]=bI l↔l=[⟨a,b⟩,⟨c,d⟩]:=by rw[show [[ti a,ti b],[ti c,ti d]]=bI [⟨a,b⟩,⟨c,d⟩]from rfl,oN];exact eq_comm
@[simp] theorem adx:la []=[]:=rfl
@[simp] theorem ady{a b:Int}:la [[ti a,ti b]]=[⟨a,b⟩]:=rfl
@[simp] theorem adz{a b c d:Int}:la [[ti a,ti b],[ti c,ti d]]=[⟨a,b⟩,⟨c,d⟩]:=rfl
def lG(c:bV)(h f t:Int):Cell:=
 if h<0\/h>=c.an\/f<0\/t<f\/t>=c.aN then fc else c.cells.getD (cJ c.an c.aN f.toNat t.toNat+h).toNat fc
def Cs(c:bV):Prop:=0<=c.an/\c.an<=1000/\0<=c.aN/\c.aN<=1000/\c.cells.length<=1000000000000/\∀x∈c.cells,kL x.val
theorem Ic:kL fc.val:=by simp[kL,fc]
theorem T0{c:bV}(hc:Cs c)(h f t:Int):kL (lG c h f t).val:=by
 unfold lG;split
 ·exact Ic
 ·rw[List.getD];cases e:c.cells[(cJ c.an c.aN f.toNat t.toNat+h).toNat]? with
  |none=>exact Ic
  |some x=>exact hc.2.2.2.2.2 x (Zaq e)
abbrev s42:DM.Spec:=cy (λts=>ts=[]) (λ_=>.agg [ti 1099511627776,ti 0,ti (-1),ti 0]) true
abbrev s25:DM.Spec:=cy (λts=>∃n st f t:Int,ts=[ti n,ti st,ti f,ti t]/\0<=n/\n<=1000/\st<=1000/\0<=f/\f<=st/\t<=1000/\f<=t) (fun|[.int _ n,.int _ st,.int _ f,.int _ t]=>ti (cJ n st f.toNat t.toNat)|_=>.bool false) true
theorem okAt:ay Tryz.prog (aW [(42,s42),(25,s25)]):=by
 refine ay.cons (ay.cons ay.nil ?_) ?_
 ·rintro ts ⟨n,st,f,t,rfl,h1,h2,h3,h4,h5,h6,h7⟩;obtain⟨f,rfl⟩:=Zad h4;obtain⟨t,rfl⟩:=Zad (a:=t) (by omega);exact⟨by simpa using t25 n st f t h1 h2 h3 h5 (by omega) (by omega),λ_=>rfl⟩
 ·rintro ts rfl;exact⟨t42,λ_=>rfl⟩
theorem jZ{n st:Int}{f t:Nat}(h1:0<=n)(h2:n<=1000)(h3:st<=1000)(h4:(f:Int)<=st)(h5:t<=1000)(h6:f<=t):0<=cJ n st f t/\cJ n st f t<=2000000000:=by
 have hb:=dY h3 f h4;have:=cN (a:=pre st f+t-f) (A:=2000000) (b:=n) (B:=1000) (by omega) (by omega) h1 h2;unfold cJ;omega
theorem t19(c:bV)(h f t:Int)(hc:Cs c):aT Tryz.prog 19 [c.enc,.agg [ti h,ti f,ti t]] (.agg (lG c h f t).enc):=by
 obtain⟨cn,cs,cl⟩:=c;obtain⟨k1,k2,k3,k4,k5,k6⟩:=hc;simp only at k1 k2 k3 k4 k5 k6;obtain⟨R,hR⟩:∃R,lG ⟨cn,cs,cl⟩ h f t=R:=⟨_,rfl⟩;rw[hR];unfold lG at hR;simp only at hR;have aw:=okAt;refine c19.ok (by simp) (aJ ?_);simp[bV.enc];refine aa.ab aw fw [2,3,4] ?_;simp[aaC];refine aa.le (Le.aC (o:=[(1005,.box [.v (ti 0),.v (ti 0),.v (ti 0),.v (ti 0)])]) (l:=[(2,.v (.box [ti cn,ti cs,.sl (aL cl)])),(3,.v (.box [ti h,ti f,ti t])),(4,.ptr 1005 0)]) (nxt':=1200) ?_ ?_ ?_ ?_) ?_;iterate 4(·simp)
 refine aa.seq ?_;obtain⟨c1,bb⟩:∃c1:Bool,decide (h<0\/h>=cn\/f<0\/t<f\/t>=cs)=c1:=⟨_,rfl⟩;refine aa.bY aw fw [(2,.v (.box [ti cn,ti cs,.sl (aL cl)])),(3,.v (.box [ti h,ti f,ti t])),(4,.ptr 1005 0),(34,.v (.bool c1))] ?_ ?_
 ·by_cases q1:h<0
  ·have:c1=true:=by rw[<-bb];simp[q1]
   simp[AY,q1,this]
  ·skip
   by_cases q2:h>=cn
   ·have:c1=true:=by rw[<-bb];simp[q2]
    simp[AY,q1,q2,this]
   ·skip
    by_cases q3:f<0
    ·have:c1=true:=by rw[<-bb];simp[q3]
     simp[AY,q1,q2,q3,this]
    ·skip
     by_cases q4:t<f
     ·have:c1=true:=by rw[<-bb];simp[q4]
      simp[AY,q1,q2,q3,q4,this]
     ·skip
      by_cases q5:t>=cs
      ·have:c1=true:=by rw[<-bb];simp[q5]
       simp[AY,q1,q2,q3,q4,q5,this]
      ·skip
       have:c1=false:=by rw[<-bb];simp[q1,q2,q3,q4,q5]
       simp[AY,q1,q2,q3,q4,q5,this]
 refine aa.cond rfl (λh1=>?_) (λh1=>?_)
 ·rw[h1]at bb;rw[if_pos (of_decide_eq_true bb)]at hR;subst hR;refine aa.ab aw fw [4] ?_;simp[aaD];refine aa.ret ?_;simp[EO,fc,Cell.enc]
 ·rw[h1]at bb;have bb:=of_decide_eq_false bb;rw[if_neg bb]at hR;obtain⟨f,rfl⟩:=Zad (a:=f) (by omega);obtain⟨t,rfl⟩:=Zad (a:=t) (by omega);simp only[Zak]at hR;refine aa.skip ?_;simp;have Nj:=jZ (n:=cn) (st:=cs) (f:=f) (t:=t) k1 k2 k4 (by omega) (by omega) (by omega);obtain⟨x,hx⟩:∃x,cJ cn cs f t+h=x:=⟨_,rfl⟩;have w1:IntKind.i64.wrap (cJ cn cs f t+h)=x:=by rw[hx];exact au (by omega)
  rw[hx]at hR;refine aa.ab aw fw [2,4,5] ?_;simp[aaE,and_assoc,w1];refine⟨by omega,by omega,by omega,by omega,by omega,by omega, ?_⟩;refine aa.seq ?_;refine aa.ab aw fw [2,4,5,52] ?_;simp[aaF];refine aa.cond rfl (λh2=>?_) (λh2=>?_)
  ·have h2:(cl.length:Int)<=x:=by simpa using h2
   rw[List.getD,ZaS (by omega)]at hR;subst hR;refine aa.ab aw fw [4] ?_;simp[aaG];refine aa.ret ?_;simp[EO,fc,Cell.enc]
  ·have h2:¬(cl.length:Int)<=x:=by simpa using h2
   obtain⟨x,rfl⟩:=Zad (a:=x) (by omega);have sc:x<cl.length:=by omega
   refine aa.skip ?_;simp;have rr:=fq sc;have hR2:cl.getD x default=R:=by rw[<-hR];simp[List.getD,sc]
   rw[hR2]at rr;refine aa.ab aw fw [4] ?_;simp[aaH,sc,rr,Cell.enc];refine aa.ret ?_;simp[EO]
def cz(c:bV)(own:List Cell)(fr to h f t:Int):br:=if f=fr/\t=to then(own.getD h.toNat default).val else(lG c h f t).val
def XG(c:bV)(own:List Cell)(fr to h f t:Int):Prop:=Cs c/\own.length<=1000000/\(f=fr/\t=to->0<=h/\h<own.length)
theorem oL{c:bV}{own:List Cell}{fr to h f t:Int}(h1:XG c own fr to h f t)(h2:∀x∈own,kL x.val):kL (cz c own fr to h f t):=by
 unfold cz;split
 ·rename_i e;have:=h1.2.2 e;exact h2 _ (bw (by omega))
 ·exact T0 h1.1 _ _ _
abbrev s19:DM.Spec:=cy (λts=>∃cn cs cl h f t,ts=[.agg [ti cn,ti cs,.sl (aL cl)],.agg [ti h,ti f,ti t]]/\Cs ⟨cn,cs,cl⟩) (fun|[c,.agg [.int _ h,.int _ f,.int _ t]]=>.agg [ti (lG (pG c) h f t).cost,ti (lG (pG c) h f t).size,ti (lG (pG c) h f t).ez,ti (lG (pG c) h f t).arg]|_=>.bool false) true
theorem ok19:ay Tryz.prog (aW [(19,s19)]):=by
 refine ay.cons ay.nil ?_;rintro ts ⟨cn,cs,cl,h,f,t,rfl,hc⟩;exact⟨by simpa [bV.enc,Cell.enc]using t19 ⟨cn,cs,cl⟩ h f t hc,λ_=>rfl⟩
theorem t70(c:bV)(own:List Cell)(fr to h f t:Int)(hp:XG c own fr to h f t):aT Tryz.prog 70 [c.enc,.sl (aL own),ti fr,ti to,.agg [ti h,ti f,ti t]] (.agg [ti (cz c own fr to h f t).cost,ti (cz c own fr to h f t).size]):=by
 obtain⟨cn,cs,cl⟩:=c;obtain⟨hc,hl,ho⟩:=hp;obtain⟨R,hR⟩:∃R,cz ⟨cn,cs,cl⟩ own fr to h f t=R:=⟨_,rfl⟩;rw[hR];unfold cz at hR;have aw:=ok19;refine c70.ok (by simp) (aJ ?_);simp[bV.enc];refine aa.ab aw fw [1,2,3,5,9,10] ?_;simp[aaI];refine aa.le (Le.aC (o:=[(1011,.box [.v (ti 0),.v (ti 0)])]) (l:=[(1,.v (.sl (aL own))),(2,.v (ti fr)),(3,.v (ti to)),(5,.v (.box [ti cn,ti cs,.sl (aL cl)])),(9,.v (.box [ti h,ti f,ti t])),(10,.ptr 1011 0)]) (nxt':=1200) ?_ ?_ ?_ ?_) ?_;iterate 4(·simp)
 refine aa.seq ?_;obtain⟨c1,bb⟩:∃c1:Bool,decide (f=fr/\t=to)=c1:=⟨_,rfl⟩;refine aa.bY aw fw [(1,.v (.sl (aL own))),(5,.v (.box [ti cn,ti cs,.sl (aL cl)])),(9,.v (.box [ti h,ti f,ti t])),(10,.ptr 1011 0),(20,.v (.bool c1))] ?_ ?_
 ·by_cases q1:f=fr
  ·by_cases q2:t=to
   ·have:c1=true:=by rw[<-bb];simp[q1,q2]
    simp[MV,q1,q2,this]
   ·have:c1=false:=by rw[<-bb];simp[q2]
    simp[MV,q1,q2,this]
  ·have:c1=false:=by rw[<-bb];simp[q1]
   simp[MV,q1,this]
 refine aa.cond rfl (λh1=>?_) (λh1=>?_)
 ·rw[h1]at bb;have bb:=of_decide_eq_true bb;rw[if_pos bb]at hR;obtain⟨g1,g2⟩:=ho bb;obtain⟨h,rfl⟩:=Zad g1;have qe:h<own.length:=by omega
  have rr:=fq qe;simp only[Zak]at hR;obtain⟨x,hx⟩:∃x,own.getD h default=x:=⟨_,rfl⟩;rw[hx]at rr hR;refine aa.ab aw fw [10] ?_;simp[aaJ,qe,rr,Cell.enc];refine aa.ret ?_;subst hR;simp[Kj]
 ·rw[h1]at bb;have bb:=of_decide_eq_false bb;rw[if_neg bb]at hR;refine aa.skip ?_;simp;refine aa.ab aw fw [10] ?_;simp[aaK,and_assoc,hc];refine aa.ret ?_;subst hR;simp[Kj]
def ud(n:aG)(r:bC):Prop:=0<=r.head/\r.head<n.an/\0<=r.bE/\r.bE<=1000/\(r.kind=1\/(r.kind=2/\0<=r.a/\r.a<n.aV)\/(r.kind=3/\0<=r.a/\r.a<n.an)\/(r.kind=4/\0<=r.a/\r.a<n.an/\0<=r.b/\r.b<n.an))
def oK(n:aG):Prop:=1<=n.an/\n.an<=1000/\n.rules.length<=600/\∀r∈n.rules,ud n r
def vD(l:aM):Prop:=1<=l.aN/\l.aN<=1000/\l.aD.length<=1000000000/\∀a∈l.aD,0<=a.cost/\a.cost<=1099511627776
def No(n:aG)(own:List Cell):Prop:=(own.length:Int)=n.an/\∀x∈own,kL x.val
def stepT(r:bC)(aD:List bn)(fr to i:Int)(x:Cell)(k:Nat):Cell:=
 if(aD.getD k default).f=fr/\(aD.getD k default).t=to/\(aD.getD k default).term=r.a then dD x (comb (r.bE+(aD.getD k default).cost) []) i k else x
def p7(r:bC)(c:bV)(own:List Cell)(fr to i:Int)(x:Cell)(k:Nat):Cell:=
 dD x (comb r.bE [cz c own fr to r.a fr (fr+k),cz c own fr to r.b (fr+k) to]) i (fr+k)
def lu(r:bC)(l:aM)(c:bV)(own:List Cell)(fr to i:Int)(x:Cell):Cell:=
 if r.kind=1 then(if fr=to then dD x (comb r.bE []) i fr else x)
 else if r.kind=2 then(List.range l.aD.length).foldl (stepT r l.aD fr to i) x
 else if r.kind=3 then dD x (comb r.bE [cz c own fr to r.a fr to]) i fr
 else(List.range (to-fr+1).toNat).foldl (p7 r c own fr to i) x
def dL(n:aG)(l:aM)(c:bV)(own:List Cell)(fr to:Int)(i:Nat):Cell:=
 lu (n.rules.getD i default) l c own fr to i (own.getD (n.rules.getD i default).head.toNat default)
abbrev s69:DM.Spec:=cy (λts=>∃c l,ts=[ti c,.sl (bI l)]/\(∀v∈l,kL v)/\0<=c/\c<=4000000000000/\l.length<=1000000) (fun|[.int _ c,.sl l]=>.agg [ti (comb c (la l)).cost,ti (comb c (la l)).size]|_=>.bool false) true
abbrev s68:DM.Spec:=cy (λts=>∃a b c d vc vs r g,ts=[.agg [ti a,ti b,ti c,ti d],.agg [ti vc,ti vs],ti r,ti g])
 (fun|[.agg [.int _ a,.int _ b,.int _ c,.int _ d],.agg [.int _ vc,.int _ vs],.int _ r,.int _ g]=>.agg [ti (dD ⟨a,b,c,d⟩ ⟨vc,vs⟩ r g).cost,ti (dD ⟨a,b,c,d⟩ ⟨vc,vs⟩ r g).size,ti (dD ⟨a,b,c,d⟩ ⟨vc,vs⟩ r g).ez,ti (dD ⟨a,b,c,d⟩ ⟨vc,vs⟩ r g).arg]|_=>.bool false) true
abbrev s70:DM.Spec:=cy (λts=>∃cn cs cl own fr to h f t,ts=[.agg [ti cn,ti cs,.sl (aL cl)],.sl (aL own),ti fr,ti to,.agg [ti h,ti f,ti t]]/\XG ⟨cn,cs,cl⟩ own fr to h f t)
 (fun|[c,.sl own,.int _ fr,.int _ to,.agg [.int _ h,.int _ f,.int _ t]]=>.agg [ti (cz (pG c) (jW own) fr to h f t).cost,ti (cz (pG c) (jW own) fr to h f t).size]|_=>.bool false) true
theorem okI:ay Tryz.prog (aW [(69,s69),(68,s68),(70,s70)]):=by
 refine ay.cons (ay.cons (ay.cons ay.nil ?_) ?_) ?_
 ·rintro ts ⟨cn,cs,cl,own,fr,to,h,f,t,rfl,hp⟩;exact⟨by simpa [bV.enc]using t70 ⟨cn,cs,cl⟩ own fr to h f t hp,λ_=>rfl⟩
 ·rintro ts ⟨a,b,c,d,vc,vs,r,g,rfl⟩;exact⟨by simpa [Cell.enc]using t68 ⟨a,b,c,d⟩ ⟨vc,vs⟩ r g,λ_=>rfl⟩
 ·rintro ts ⟨c,l,rfl,h1,h2,h3,h4⟩;exact⟨by simpa using t69 c l h1 h2 h3 h4,λ_=>rfl⟩
@[simp] theorem valsT_nil2{l:List br}:bI l=[]↔l=[]:=by rw[eq_comm,O1]
theorem vH:∀v∈([]:List br),kL v:=λv h=>by cases h
theorem t46(n:aG)(l:aM)(c:bV)(own:List Cell)(fr to i:Nat)(hn:oK n)(hl:vD l)(hc:Cs c)(ho:No n own)(hi:i<n.rules.length)(p8:fr<=to)(iY:to<=1000):
  aT Tryz.prog 46 [n.enc,l.enc,c.enc,.sl (aL own),ti fr,ti to,ti i] (.agg (dL n l c own fr to i).enc):=by
 obtain⟨r,hr⟩:∃r,n.rules.getD i default=r:=⟨_,rfl⟩;have jS:ud n r:=hn.2.2.2 r (by rw[<-hr];exact bw hi);obtain⟨x,hx⟩:∃x,own.getD r.head.toNat default=x:=⟨_,rfl⟩;obtain⟨R,hR⟩:∃R,dL n l c own fr to i=R:=⟨_,rfl⟩;rw[hR];unfold dL at hR;rw[hr,hx]at hR;obtain⟨nt,nn,ns,rules⟩:=n;obtain⟨ls,aD,fin⟩:=l;obtain⟨cn,cs,cl⟩:=c;obtain⟨rk,rh,ra,rb,rp,rg⟩:=r;obtain⟨xc,xs,xr,xg⟩:=x;obtain⟨q1,q2,q3,q4,q5⟩:=jS;obtain⟨o1,o2⟩:=ho;obtain⟨l1,l2,l3,l4⟩:=hl;obtain⟨n1,n2,n3,n4⟩:=hn;simp only at q1 q2 q3 q4 q5 o1 hr hi hx l1 l2 l3 l4 n1 n2 n3 n4;obtain⟨rh,rfl⟩:=Zad q1;simp only[Zak]at hx;have KY:rh<own.length:=by omega
 have rr:=fT hi;rw[hr]at rr;have rx:=fq KY;rw[hx]at rx;have qc:∀{h:Int},0<=h->h<nn->∀f t:Int,XG ⟨cn,cs,cl⟩ own fr to h f t:=λh0 h1 f t=>⟨hc,by omega,λ_=>⟨h0,by omega⟩⟩;have aw:=okI;refine c46.ok (by simp) (aJ ?_);simp[aG.enc,aM.enc,bV.enc];refine aa.ab aw fw [3,4,5,6,7,8,9,14] ?_;simp[Hb];refine aa.le (Le.aC (o:=[(1015,.box [.v (ti 0),.v (ti 0),.v (ti 0),.v (ti 0)])]) (l:=[(3,.v (.sl (aL own))),(4,.v (ti fr)),(5,.v (ti to)),(6,.v (ti i)),(7,.v (.box [ti nt,ti nn,ti ns,.sl (aS rules)])),(8,.v (.box [ti ls,.sl (ba aD),.sl (aB fin)])),(9,.v (.box [ti cn,ti cs,.sl (aL cl)])),(14,.ptr 1015 0)]) (nxt':=1200) ?_ ?_ ?_ ?_) ?_;iterate 4(·simp)
 refine aa.ab aw fw [3,4,5,6,7,8,9,14,15] ?_;simp[MW,hi,rr,bC.enc];refine aa.le (Le.aC (o:=[(1015,.box [.v (ti 0),.v (ti 0),.v (ti 0),.v (ti 0)])]) (l:=[(3,.v (.sl (aL own))),(4,.v (ti fr)),(5,.v (ti to)),(6,.v (ti i)),(7,.v (.box [ti nt,ti nn,ti ns,.sl (aS rules)])),(8,.v (.box [ti ls,.sl (ba aD),.sl (aB fin)])),(9,.v (.box [ti cn,ti cs,.sl (aL cl)])),(14,.ptr 1015 0),(15,.v (.box [ti rk,ti rh,ti ra,ti rb,ti rp,ti rg]))]) (nxt':=1400) ?_ ?_ ?_ ?_) ?_;iterate 4(·simp)
 refine aa.ab aw fw [3,4,5,6,7,8,9,14,15,16] ?_;simp[MX,KY,rx,Cell.enc];refine aa.le (Le.aC (o:=[(1015,.box [.v (ti 0),.v (ti 0),.v (ti 0),.v (ti 0)]),(1417,.box [.v (ti xc),.v (ti xs),.v (ti xr),.v (ti xg)])]) (l:=[(3,.v (.sl (aL own))),(4,.v (ti fr)),(5,.v (ti to)),(6,.v (ti i)),(7,.v (.box [ti nt,ti nn,ti ns,.sl (aS rules)])),(8,.v (.box [ti ls,.sl (ba aD),.sl (aB fin)])),(9,.v (.box [ti cn,ti cs,.sl (aL cl)])),(14,.ptr 1015 0),(15,.v (.box [ti rk,ti rh,ti ra,ti rb,ti rp,ti rg])),(16,.ptr 1417 0)]) (nxt':=1600) ?_ ?_ ?_ ?_) ?_;iterate 4(·simp)
 refine aa.seq ?_;refine aa.ab aw fw [3,4,5,6,8,9,14,15,16,33] ?_;simp[Hc];refine aa.block ?_;refine aa.ab aw fw [3,4,5,6,8,9,14,15,16,33,70] ?_;simp[Hd];refine aa.cond rfl (λk1=>?_) (λk1=>?_)
 ·have k1:rk=1:=by simpa using k1
  rw[show rk=1 from k1]at hR;simp only[lu,if_pos]at hR;refine aa.ab aw fw [4,6,14,15,16,74] ?_;simp[aaL];refine aa.cond rfl (λk2=>?_) (λk2=>?_)
  ·have k2:(fr:Int)=to:=by simpa using k2
   rw[if_pos k2]at hR;refine aa.dp aw fw [14,16] ?_;simp[aaM,and_assoc];refine⟨by omega,by omega, ?_⟩;refine aa.ab aw fw [14] ?_;simp[xk];refine aa.ret ?_;subst hR;simp[pD,Cell.enc]
  ·have k2:¬(fr:Int)=to:=by simpa using k2
   rw[if_neg k2]at hR;refine aa.skip ?_;simp;refine aa.ab aw fw [14] ?_;simp[xk];refine aa.ret ?_;subst hR;simp[pD,Cell.enc]
 ·have k1:¬rk=1:=by simpa using k1
  simp only[lu,k1,if_false]at hR;refine aa.ab aw fw [3,4,5,6,8,9,14,15,16,33,82] ?_;simp[aaN];refine aa.cond rfl (λk3=>?_) (λk3=>?_)
  ·have k3:rk=2:=by simpa using k3
   rw[if_pos k3]at hR;refine aa.ab aw fw [4,5,6,8,14,15,16,17] ?_;simp[aaO];refine aa.block ?_;refine aa.loop (λy:Nat=>⟨DM.look [(4,.v (ti fr)),(5,.v (ti to)),(6,.v (ti i)),(8,.v (.box [ti ls,.sl (ba aD),.sl (aB fin)])),(14,.ptr 1015 0),(15,.v (.box [ti rk,ti rh,ti ra,ti rb,ti rp,ti rg])),(16,.ptr 1417 0),(17,.v (ti y))],cA [(1015,.box [.v (ti 0),.v (ti 0),.v (ti 0),.v (ti 0)]),(1417,.box [.v (ti ((List.range y).foldl (stepT ⟨rk,rh,ra,rb,rp,rg⟩ aD fr to i) ⟨xc,xs,xr,xg⟩).cost),.v (ti ((List.range y).foldl (stepT ⟨rk,rh,ra,rb,rp,rg⟩ aD fr to i) ⟨xc,xs,xr,xg⟩).size),.v (ti ((List.range y).foldl (stepT ⟨rk,rh,ra,rb,rp,rg⟩ aD fr to i) ⟨xc,xs,xr,xg⟩).ez),.v (ti ((List.range y).foldl (stepT ⟨rk,rh,ra,rb,rp,rg⟩ aD fr to i) ⟨xc,xs,xr,xg⟩).arg)])],2000,1000,[]⟩)
    (λy=>y<=aD.length) (λy=>aD.length-y) 0 (Le.aC ?_ ?_ ?_ ?_) (by simp) (λy hy=>?_)
   iterate 4(·simp)
   obtain⟨X,hX⟩:∃X,((List.range y).foldl (stepT ⟨rk,rh,ra,rb,rp,rg⟩ aD fr to i) ⟨xc,xs,xr,xg⟩)=X:=⟨_,rfl⟩;rw[hX];refine aa.seq ?_;refine aa.ab aw fw [4,5,6,8,14,15,16,17,88] ?_;simp[aaP];refine aa.cond rfl (λbM=>?_) (λbM=>?_)
   ·have bM:y<aD.length:=by simpa using bM
    refine aa.skip ?_;simp;refine aa.seq ?_;refine aa.block ?_;have ra1:=kP bM;obtain⟨a,ha⟩:∃a,aD.getD y default=a:=⟨_,rfl⟩;rw[ha]at ra1;obtain⟨g1,g2⟩:=l4 a (by rw[<-ha];exact bw bM);obtain⟨c1,bb⟩:∃c1:Bool,decide (a.f=fr/\a.t=to/\a.term=ra)=c1:=⟨_,rfl⟩;refine aa.bY aw fw [(4,.v (ti fr)),(5,.v (ti to)),(6,.v (ti i)),(8,.v (.box [ti ls,.sl (ba aD),.sl (aB fin)])),(14,.ptr 1015 0),(15,.v (.box [ti rk,ti rh,ti ra,ti rb,ti rp,ti rg])),(16,.ptr 1417 0),(17,.v (ti y)),(119,.v (.bool c1))] ?_ ?_
    ·by_cases q1:a.f=fr
     ·by_cases q2:a.t=to
      ·by_cases q3:a.term=ra
       ·have:c1=true:=by rw[<-bb];simp[q1,q2,q3]
        simp[AZ,bM,ra1,bn.enc,q1,q2,q3,this]
       ·have:c1=false:=by rw[<-bb];simp[q3]
        simp[AZ,bM,ra1,bn.enc,q1,q2,q3,this]
      ·have:c1=false:=by rw[<-bb];simp[q2]
       simp[AZ,bM,ra1,bn.enc,q1,q2,this]
     ·have:c1=false:=by rw[<-bb];simp[q1]
      simp[AZ,bM,ra1,bn.enc,q1,this]
    refine aa.cond rfl (λh5=>?_) (λh5=>?_)
    ·rw[h5]at bb;have bb:=of_decide_eq_true bb;have lF:stepT ⟨rk,rh,ra,rb,rp,rg⟩ aD fr to i X y=dD X (comb (rp+a.cost) []) i y:=by unfold stepT;rw[ha,if_pos bb]
     refine aa.dp aw fw [4,5,6,8,14,15,16,17] ?_;simp[RP,bM,ra1,bn.enc,and_assoc,au (x:=rp+a.cost) (by omega)];refine⟨by omega,by omega, ?_⟩;refine aa.dp aw fw [4,5,6,8,14,15,16,17] ?_;simp[Kk];rw[au (x:=(y:Int)+1) (by omega)];refine⟨y+1,Le.aC ?_ ?_ ?_ ?_,by omega,by omega⟩
     ·simp
     ·simp
     ·simp[ZaE,Zat,hX,lF]
     ·simp
    ·rw[h5]at bb;have bb:=of_decide_eq_false bb;have lF:stepT ⟨rk,rh,ra,rb,rp,rg⟩ aD fr to i X y=X:=by unfold stepT;rw[ha,if_neg bb]
     refine aa.skip ?_;simp;refine aa.dp aw fw [4,5,6,8,14,15,16,17] ?_;simp[Kk];rw[au (x:=(y:Int)+1) (by omega)];refine⟨y+1,Le.aC ?_ ?_ ?_ ?_,by omega,by omega⟩
     ·simp
     ·simp
     ·simp[ZaE,Zat,hX,lF]
     ·simp
   ·have fl:y=aD.length:=by simp at bM;omega
    subst fl;rw[hX]at hR;refine aa.exit ?_;simp;refine aa.ab aw fw [14] ?_;simp[xk];refine aa.ret ?_;subst hR;simp[pD,Cell.enc]
  ·have k3:¬rk=2:=by simpa using k3
   rw[if_neg k3]at hR;refine aa.ab aw fw [3,4,5,6,9,14,15,16,134] ?_;simp[RQ];refine aa.cond rfl (λk4=>?_) (λk4=>?_)
   ·have k4:rk=3:=by simpa using k4
    rw[if_pos k4]at hR;have zg:=qc (h:=ra) (by omega) (by omega) fr to;have jj:=oL zg o2;obtain⟨⟨vc,vs⟩,hv⟩:∃v,cz ⟨cn,cs,cl⟩ own fr to ra fr to=v:=⟨_,rfl⟩;rw[hv]at jj hR;refine aa.ab aw fw [6,14,15,16,18,4] ?_;simp[RU,and_assoc,zg,hv];refine aa.le (Le.aC (o:=[(1015,.box [.v (ti 0),.v (ti 0),.v (ti 0),.v (ti 0)]),(1417,.box [.v (ti xc),.v (ti xs),.v (ti xr),.v (ti xg)])]) (l:=[(4,.v (ti fr)),(6,.v (ti i)),(14,.ptr 1015 0),(15,.v (.box [ti rk,ti rh,ti ra,ti rb,ti rp,ti rg])),(16,.ptr 1417 0),(18,.v (.box [ti vc,ti vs]))]) (nxt':=2200) ?_ ?_ ?_ ?_) ?_;iterate 4(·simp)
    refine aa.dp aw fw [14,16] ?_;simp[RW,and_assoc,jj,chunk];refine⟨by omega,by omega, ?_⟩;refine aa.ab aw fw [14] ?_;simp[xk];refine aa.ret ?_;subst hR;simp[pD,Cell.enc]
   ·have k4:¬rk=3:=by simpa using k4
    rw[if_neg k4]at hR;refine aa.ab aw fw [3,4,5,6,9,14,15,16,19] ?_;simp[RX];refine aa.block ?_;refine aa.loop (λy:Nat=>⟨DM.look [(3,.v (.sl (aL own))),(4,.v (ti fr)),(5,.v (ti to)),(6,.v (ti i)),(9,.v (.box [ti cn,ti cs,.sl (aL cl)])),(14,.ptr 1015 0),(15,.v (.box [ti rk,ti rh,ti ra,ti rb,ti rp,ti rg])),(16,.ptr 1417 0),(19,.v (ti ((fr+y:Nat):Int)))],cA [(1015,.box [.v (ti 0),.v (ti 0),.v (ti 0),.v (ti 0)]),(1417,.box [.v (ti ((List.range y).foldl (p7 ⟨rk,rh,ra,rb,rp,rg⟩ ⟨cn,cs,cl⟩ own fr to i) ⟨xc,xs,xr,xg⟩).cost),.v (ti ((List.range y).foldl (p7 ⟨rk,rh,ra,rb,rp,rg⟩ ⟨cn,cs,cl⟩ own fr to i) ⟨xc,xs,xr,xg⟩).size),.v (ti ((List.range y).foldl (p7 ⟨rk,rh,ra,rb,rp,rg⟩ ⟨cn,cs,cl⟩ own fr to i) ⟨xc,xs,xr,xg⟩).ez),.v (ti ((List.range y).foldl (p7 ⟨rk,rh,ra,rb,rp,rg⟩ ⟨cn,cs,cl⟩ own fr to i) ⟨xc,xs,xr,xg⟩).arg)])],3000,1000,[]⟩)
     (λy=>fr+y<=to+1) (λy=>to+1-(fr+y)) 0 (Le.aC ?_ ?_ ?_ ?_) (by omega) (λy hy=>?_)
    iterate 4(·simp)
    obtain⟨X,hX⟩:∃X,((List.range y).foldl (p7 ⟨rk,rh,ra,rb,rp,rg⟩ ⟨cn,cs,cl⟩ own fr to i) ⟨xc,xs,xr,xg⟩)=X:=⟨_,rfl⟩;rw[hX];obtain⟨m,hm⟩:∃m,fr+y=m:=⟨_,rfl⟩;rw[hm];refine aa.seq ?_;refine aa.ab aw fw [3,4,5,6,9,14,15,16,19,37] ?_;simp[RY];refine aa.cond rfl (λk5=>?_) (λk5=>?_)
    ·have k5:m<=to:=by simp at k5;omega
     refine aa.skip ?_;simp;refine aa.seq ?_;refine aa.block ?_;have hu1:=qc (h:=ra) (by omega) (by omega) fr m;have hu2:=oL hu1 o2;obtain⟨⟨uc,us⟩,hu⟩:∃v,cz ⟨cn,cs,cl⟩ own fr to ra fr m=v:=⟨_,rfl⟩;rw[hu]at hu2;refine aa.ab aw fw [3,4,5,6,9,14,15,16,19,20] ?_;simp[RZ,and_assoc,hu1,hu];refine aa.le (Le.aC (o:=[(1015,.box [.v (ti 0),.v (ti 0),.v (ti 0),.v (ti 0)]),(1417,.box [.v (ti X.cost),.v (ti X.size),.v (ti X.ez),.v (ti X.arg)])]) (l:=[(3,.v (.sl (aL own))),(4,.v (ti fr)),(5,.v (ti to)),(6,.v (ti i)),(9,.v (.box [ti cn,ti cs,.sl (aL cl)])),(14,.ptr 1015 0),(15,.v (.box [ti rk,ti rh,ti ra,ti rb,ti rp,ti rg])),(16,.ptr 1417 0),(19,.v (ti m)),(20,.v (.box [ti uc,ti us]))]) (nxt':=3200) ?_ ?_ ?_ ?_) ?_;iterate 4(·simp)
     have zg:=qc (h:=rb) (by omega) (by omega) m to;have jj:=oL zg o2;obtain⟨⟨vc,vs⟩,hv⟩:∃v,cz ⟨cn,cs,cl⟩ own fr to rb m to=v:=⟨_,rfl⟩;rw[hv]at jj;refine aa.ab aw fw [3,4,5,6,9,14,15,16,19,20,21] ?_;simp[R5,and_assoc,zg,hv];refine aa.le (Le.aC (o:=[(1015,.box [.v (ti 0),.v (ti 0),.v (ti 0),.v (ti 0)]),(1417,.box [.v (ti X.cost),.v (ti X.size),.v (ti X.ez),.v (ti X.arg)])]) (l:=[(3,.v (.sl (aL own))),(4,.v (ti fr)),(5,.v (ti to)),(6,.v (ti i)),(9,.v (.box [ti cn,ti cs,.sl (aL cl)])),(14,.ptr 1015 0),(15,.v (.box [ti rk,ti rh,ti ra,ti rb,ti rp,ti rg])),(16,.ptr 1417 0),(19,.v (ti m)),(20,.v (.box [ti uc,ti us])),(21,.v (.box [ti vc,ti vs]))]) (nxt':=3400) ?_ ?_ ?_ ?_) ?_;iterate 4(·simp)
     have Ed:(fr:Int)+y=m:=by omega
     have lF:p7 ⟨rk,rh,ra,rb,rp,rg⟩ ⟨cn,cs,cl⟩ own fr to i X y=dD X (comb rp [⟨uc,us⟩,⟨vc,vs⟩]) i m:=by unfold p7;simp only[Ed,hu,hv]
     refine aa.dp aw fw [3,4,5,6,9,14,15,16,19] ?_;simp[R6,and_assoc,hu2,jj,chunk];refine⟨by omega,by omega, ?_⟩;refine aa.dp aw fw [3,4,5,6,9,14,15,16,19] ?_;simp[R7];rw[au (x:=(m:Int)+1) (by omega)];refine⟨y+1,Le.aC ?_ ?_ ?_ ?_,by omega,by omega⟩
     ·simp
     ·simp
     ·simp[ZaE,Zat,hX,lF]
     ·simp;omega
    ·have k5:y=(to-fr+1:Int).toNat:=by simp at k5;omega
     subst k5;rw[hX]at hR;refine aa.exit ?_;simp;refine aa.ab aw fw [14] ?_;simp[xk];refine aa.ret ?_;subst hR;simp[pD]
def kM(x:Cell):Prop:=kL x.val/\-1<=x.ez/\x.ez<=600/\0<=x.arg/\x.arg<=10000000000
def Br(x:Cell):Nat:=((x.cost.toNat*2199023255552+x.size.toNat)*1024+(x.ez+1).toNat)*17179869184+x.arg.toNat
def goes(x y:Cell):Prop:=kM y/\(y=x\/Br y<Br x)
theorem jA{x:Cell}{v:br}{r g:Int}(hx:kM x)(hv:kL v)(h1:0<=r)(h2:r<=600)(h3:0<=g)(h4:g<=10000000000):goes x (dD x v r g):=by
 obtain⟨xc,xs,xr,xg⟩:=x;obtain⟨vc,vs⟩:=v;obtain⟨⟨a1,a2,a3,a4⟩,a5,a6,a7,a8⟩:=hx;obtain⟨b1,b2,b3,b4⟩:=hv;simp only[]at a1 a2 a3 a4 a5 a6 a7 a8 b1 b2 b3 b4;unfold dD;split
 ·exact⟨⟨⟨a1,a2,a3,a4⟩,a5,a6,a7,a8⟩,.inl rfl⟩
 ·split
  ·rename_i h;refine⟨⟨⟨b1,b2,b3,b4⟩,by simp only;omega,by simp only;omega,by simp only;omega,by simp only;omega⟩,.inr ?_⟩;simp only[br.lt,Cell.val,br.mk.injEq]at h;simp only[Br];omega
  ·exact⟨⟨⟨a1,a2,a3,a4⟩,a5,a6,a7,a8⟩,.inl rfl⟩
theorem sv{x:Cell}(h:kM x):goes x x:=⟨h,.inl rfl⟩
theorem KZ{x y z:Cell}(h:goes x y)(k:goes y z):goes x z:=by
 refine⟨k.1, ?_⟩;rcases h.2 with rfl|h2
 ·exact k.2
 ·rcases k.2 with rfl|k2
  ·exact .inr h2
  ·exact .inr (by omega)
theorem xu{f:Cell->Nat->Cell}{N:Nat}(hf:∀x k,k<N->kM x->goes x (f x k))(x:Cell)(hx:kM x):goes x ((List.range N).foldl f x):=by
 induction N with
 |zero=>exact sv hx
 |succ N ih=>
  rw[ZaE,Zat];have h1:=ih λx k hk=>hf x k (by omega);exact KZ h1 (hf _ N (by omega) h1.1)
theorem vN{n:aG}{l:aM}{c:bV}{own:List Cell}{fr to i:Nat}(hn:oK n)(hl:vD l)(hc:Cs c)(ho:No n own)(hi:i<n.rules.length)(p8:fr<=to)(iY:to<=1000)
  (hx:kM (own.getD (n.rules.getD i default).head.toNat default)):goes (own.getD (n.rules.getD i default).head.toNat default) (dL n l c own fr to i):=by
 unfold dL;obtain⟨r,hr⟩:∃r,n.rules.getD i default=r:=⟨_,rfl⟩;have jS:ud n r:=hn.2.2.2 r (by rw[<-hr];exact bw hi);rw[hr]at hx⊢;obtain⟨x,fZ⟩:∃x,own.getD r.head.toNat default=x:=⟨_,rfl⟩;rw[fZ]at hx⊢;obtain⟨q1,q2,q3,q4,q5⟩:=jS;have hi2:=hn.2.2.1;have hvp:∀h f t:Int,0<=h->h<n.an->kL (cz c own fr to h f t):=λh f t h1 h2=>oL ⟨hc,by have:=ho.1;have:=hn.2.1;omega,λ_=>⟨h1,by have:=ho.1;omega⟩⟩ ho.2;unfold lu;split
 ·split
  ·exact jA hx (iE vH q3 (by omega)) (by omega) (by omega) (by omega) (by omega)
  ·exact sv hx
 ·split
  ·refine xu (λx k hk hx=>?_) x hx;unfold stepT;split
   ·have:=hl.2.2.2 (l.aD.getD k default) (bw hk);have:=hl.2.2.1;exact jA hx (iE vH (by omega) (by omega)) (by omega) (by omega) (by omega) (by omega)
   ·exact sv hx
  ·split
   ·refine jA hx (iE (λv hv=>?_) q3 (by omega)) (by omega) (by omega) (by omega) (by omega);simp only[Zah]at hv;subst hv;exact hvp _ _ _ (by omega) (by omega)
   ·refine xu (λx k hk hx=>?_) x hx;unfold p7;refine jA hx (iE (λv hv=>?_) q3 (by omega)) (by omega) (by omega) (by omega) (by omega);simp only[Zag,Zap,or_false]at hv;rcases hv with rfl|rfl<;>exact hvp _ _ _ (by omega) (by omega)
def jB(own:List Cell):Nat:=(own.map Br).sum
theorem O3{own:List Cell}{h:Nat}{y:Cell}(hh:h<own.length)(hy:Br y<Br (own.getD h default)):jB (own.set h y)<jB own:=by
 induction own generalizing h with
 |nil=>simp at hh
 |cons x own ih=>
  cases h with
  |zero=>simp[jB]at hy⊢;omega
  |succ h=>
   have:=ih (h:=h) (by simpa using hh) (by simpa using hy);simp[jB]at this⊢;omega
def oM(n:aG)(l:aM)(c:bV)(fr to:Int)(own:List Cell)(k:Nat):List Cell:=own.set (n.rules.getD k default).head.toNat (dL n l c own fr to k)
def kN(n:aG)(own:List Cell):Prop:=(own.length:Int)=n.an/\∀x∈own,kM x
theorem kN.ok{n:aG}{own:List Cell}(h:kN n own):No n own:=⟨h.1,λx hx=>(h.2 x hx).1⟩
theorem Bk{n:aG}{l:aM}{c:bV}{own:List Cell}{fr to k:Nat}(hn:oK n)(hl:vD l)(hc:Cs c)(ho:kN n own)(hk:k<n.rules.length)(p8:fr<=to)(iY:to<=1000):
  kN n (oM n l c fr to own k)/\(dL n l c own fr to k≠own.getD (n.rules.getD k default).head.toNat default->jB (oM n l c fr to own k)<jB own):=by
 have jS:=hn.2.2.2 (n.rules.getD k default) (bw hk);have hh:(n.rules.getD k default).head.toNat<own.length:=by have:=ho.1;have:=jS.1;have:=jS.2.1;omega
 have hg:=vN hn hl hc ho.ok hk p8 iY (ho.2 _ (bw hh));refine⟨⟨by simpa [oM]using ho.1,λx hx=>?_⟩,λbG=>?_⟩
 ·rcases Za0 hx with h|rfl
  ·exact ho.2 x h
  ·exact hg.1
 ·rcases hg.2 with h|h
  ·exact absurd h bG
  ·exact O3 hh h
def KU(n:aG)(l:aM)(c:bV)(fr to:Int)(own:List Cell):Prop:=∀k,k<n.rules.length->dL n l c own fr to k=own.getD (n.rules.getD k default).head.toNat default
theorem pJ(l:List Cell)(i:Nat)(x:Cell):aL (l.set i x)=(aL l).set i x.enc:=by simp[aL,ZbJ]
theorem yG:kM fc:=by simp[kM,kL,fc]
abbrev s46:DM.Spec:=cy (λts=>∃nt nn ns rules ls aD fin cn cs cl own,∃fr to i:Int,ts=[.agg [ti nt,ti nn,ti ns,.sl (aS rules)],.agg [ti ls,.sl (ba aD),.sl (aB fin)],.agg [ti cn,ti cs,.sl (aL cl)],.sl (aL own),ti fr,ti to,ti i]/\
  oK ⟨nt,nn,ns,rules⟩/\vD ⟨ls,aD,fin⟩/\Cs ⟨cn,cs,cl⟩/\No ⟨nt,nn,ns,rules⟩ own/\0<=i/\i<rules.length/\0<=fr/\fr<=to/\to<=1000)
 (fun|[n,l,c,.sl own,.int _ fr,.int _ to,.int _ i]=>.agg [ti (dL (nR n) (tZ l) (pG c) (jW own) fr to i.toNat).cost,ti (dL (nR n) (tZ l) (pG c) (jW own) fr to i.toNat).size,ti (dL (nR n) (tZ l) (pG c) (jW own) fr to i.toNat).ez,ti (dL (nR n) (tZ l) (pG c) (jW own) fr to i.toNat).arg]|_=>.bool false) true
theorem okSp:ay Tryz.prog (aW [(46,s46),(42,s42)]):=by
 refine ay.cons (ay.cons ay.nil ?_) ?_
 ·rintro ts rfl;exact⟨t42,λ_=>rfl⟩
 ·rintro ts ⟨nt,nn,ns,rules,ls,aD,fin,cn,cs,cl,own,fr,to,i,rfl,h1,h2,h3,h4,h5,h6,h7,h8,h9⟩;obtain⟨i,rfl⟩:=Zad h5;obtain⟨fr,rfl⟩:=Zad h7;obtain⟨to,rfl⟩:=Zad (a:=to) (by omega);exact⟨by simpa [aG.enc,aM.enc,bV.enc,Cell.enc]using t46 ⟨nt,nn,ns,rules⟩ ⟨ls,aD,fin⟩ ⟨cn,cs,cl⟩ own fr to i h1 h2 h3 h4 (by simpa using h6) (by omega) (by omega),λ_=>rfl⟩
structure SM where
 own:List Cell
 more:Bool
def du(n:aG)(l:aM)(c:bV)(fr to:Int)(own:List Cell)(y:Nat):List Cell:=(List.range y).foldl (oM n l c fr to) own
theorem nA(n:aG)(l:aM)(c:bV)(fr to:Int)(own:List Cell)(y:Nat):du n l c fr to own (y+1)=oM n l c fr to (du n l c fr to own y) y:=by
 simp[du,ZaE,Zat]
theorem Bl{own:List Cell}{h:Nat}{x:Cell}(hx:x=own.getD h default):own.set h x=own:=by
 subst hx;apply Zbk;intro j;rw[Zbx];split
 ·rename_i e;subst e;split
  ·rename_i hl;simp[List.getD,hl]
  ·rename_i hl;rw[ZaS (by omega)]
 ·rfl
theorem sy{n:aG}{l:aM}{c:bV}{own:List Cell}{fr to:Nat}(hn:oK n)(hl:vD l)(hc:Cs c)(ho:kN n own)(p8:fr<=to)(iY:to<=1000):∀y,y<=n.rules.length->
  kN n (du n l c fr to own y)/\((du n l c fr to own y=own/\∀k,k<y->dL n l c own fr to k=own.getD (n.rules.getD k default).head.toNat default)\/jB (du n l c fr to own y)<jB own)
 |0,_=>⟨ho,.inl ⟨rfl,λk h=>by omega⟩⟩
 |y+1,hy=>by
  obtain⟨h1,h2⟩:=sy hn hl hc ho p8 iY y (by omega);obtain⟨h3,h4⟩:=Bk hn hl hc h1 (k:=y) (by omega) p8 iY;rw[nA];refine⟨h3, ?_⟩;by_cases e:dL n l c (du n l c fr to own y) fr to y=(du n l c fr to own y).getD (n.rules.getD y default).head.toNat default
  ·have e2:oM n l c fr to (du n l c fr to own y) y=du n l c fr to own y:=Bl e;rw[e2];rcases h2 with⟨g1,g2⟩|h2
   ·refine .inl ⟨g1,λk hk=>?_⟩;by_cases qU:k=y
    ·subst qU;rwa [g1]at e
    ·exact g2 k (by omega)
   ·exact .inr h2
  ·have:=h4 e;rcases h2 with⟨g1,g2⟩|h2
   ·rw[g1]at this⊢;exact .inr this
   ·exact .inr (by omega)
def tl(n:aG)(l:aM)(c:bV)(fr to:Int):Nat->List Cell->List Cell
 |0,own=>own
 |f+1,own=>if du n l c fr to own n.rules.length=own then own else tl n l c fr to f (du n l c fr to own n.rules.length)
theorem O4{n:aG}{l:aM}{c:bV}{own:List Cell}{fr to:Int}{f:Nat}{R:List Cell}(hs:du n l c fr to own n.rules.length=own\/jB (du n l c fr to own n.rules.length)<jB own)(h1:jB own<f)(h2:tl n l c fr to f own=R):
  (du n l c fr to own n.rules.length≠own->jB (du n l c fr to own n.rules.length)<jB own/\∃f,jB (du n l c fr to own n.rules.length)<f/\tl n l c fr to f (du n l c fr to own n.rules.length)=R)/\(du n l c fr to own n.rules.length=own->own=R):=by
 cases f with
 |zero=>omega
 |succ f=>
  unfold tl at h2;refine⟨λbG=>?_,λe=>?_⟩
  ·rw[if_neg bG]at h2;have:=hs.resolve_left bG;exact⟨this,f,by omega,h2⟩
  ·rwa [if_pos e]at h2
def Ct(n:aG):List Cell:=List.replicate n.an.toNat fc
def ji(n:aG)(l:aM)(c:bV)(fr to:Int):List Cell:=tl n l c fr to (jB (Ct n)+1) (Ct n)
theorem Np{n:aG}(hn:oK n):kN n (Ct n):=by
 refine⟨?_,λx hx=>?_⟩
 ·have:=hn.1;simp only[Ct,ZbC];omega
 ·rw[ZbG hx];exact yG
theorem Ih{n:aG}{l:aM}{c:bV}{fr to:Nat}(hn:oK n)(hl:vD l)(hc:Cs c)(p8:fr<=to)(iY:to<=1000)
  (P:List Cell->Prop) (hPs:∀own k,kN n own->k<n.rules.length->P own->P (oM n l c fr to own k)):∀f own,jB own<f->kN n own->P own->kN n (tl n l c fr to f own)/\P (tl n l c fr to f own)/\KU n l c fr to (tl n l c fr to f own)
 |0,own,h,_,_=>by omega
 |f+1,own,h,ho,hp=>by
  obtain⟨h1,h2⟩:=sy hn hl hc ho p8 iY n.rules.length (Zae _);have hpw:∀y,y<=n.rules.length->P (du n l c fr to own y):=by
   intro y;induction y with
   |zero=>intro _;exact hp
   |succ y ih=>intro hy;rw[nA];exact hPs _ _ (sy hn hl hc ho p8 iY y (by omega)).1 (by omega) (ih (by omega))
  unfold tl;split
  ·rename_i e;rcases h2 with⟨_,g⟩|h2
   ·exact⟨ho,hp,g⟩
   ·rw[e]at h2;omega
  ·rename_i e;rcases h2 with⟨g,_⟩|h2
   ·exact absurd g e
   ·exact Ih hn hl hc p8 iY P hPs f _ (by omega) h1 (hpw _ (Zae _))
theorem Bn{n:aG}{l:aM}{c:bV}{fr to:Nat}(hn:oK n)(hl:vD l)(hc:Cs c)(p8:fr<=to)(iY:to<=1000)
  (P:List Cell->Prop) (hP0:P (Ct n)) (hPs:∀own k,kN n own->k<n.rules.length->P own->P (oM n l c fr to own k)):kN n (ji n l c fr to)/\P (ji n l c fr to)/\KU n l c fr to (ji n l c fr to):=
 Ih hn hl hc p8 iY P hPs _ _ (by omega) (Np hn) hP0
theorem t24(n:aG)(l:aM)(c:bV)(fr to:Nat)(hn:oK n)(hl:vD l)(hc:Cs c)(p8:fr<=to)(iY:to<=1000):lJ Tryz.prog 24 [n.enc,l.enc,c.enc,ti fr,ti to] 57 4 (aL (ji n l c fr to)):=by
 obtain⟨R,hR⟩:∃R,ji n l c fr to=R:=⟨_,rfl⟩;rw[hR];obtain⟨nt,nn,ns,rules⟩:=n;obtain⟨ls,aD,fin⟩:=l;obtain⟨cn,cs,cl⟩:=c;have aw:=okSp;have h00:=Np hn;have zL:=λ(own:List Cell) (ho:kN ⟨nt,nn,ns,rules⟩ own)=>sy hn hl hc ho p8 iY;have hss:=λ(own:List Cell) (ho:kN ⟨nt,nn,ns,rules⟩ own) (k:Nat) (hk:k<rules.length)=>Bk hn hl hc ho (k:=k) hk p8 iY;have PT:rules.length<=600:=hn.2.2.1;have P1:1<=nn:=hn.1;have O5:nn<=1000:=hn.2.1;refine c24.okF (by simp) (aJ ?_);simp[aG.enc,aM.enc,bV.enc];refine aa.ab aw fw [3,4,5,6,7] ?_;simp[aaQ];refine aa.le (Le.aC (o:=[]) (l:=[(3,.v (ti fr)),(4,.v (ti to)),(5,.v (.box [ti nt,ti nn,ti ns,.sl (aS rules)])),(6,.v (.box [ti ls,.sl (ba aD),.sl (aB fin)])),(7,.v (.box [ti cn,ti cs,.sl (aL cl)]))]) (nxt':=1200) ?_ ?_ ?_ ?_) ?_;iterate 4(·simp)
 refine aa.ab aw fw [3,4,5,6,7,11] ?_;simp[aaR];refine aa.le (Le.aC (o:=[]) (l:=[(3,.v (ti fr)),(4,.v (ti to)),(5,.v (.box [ti nt,ti nn,ti ns,.sl (aS rules)])),(6,.v (.box [ti ls,.sl (ba aD),.sl (aB fin)])),(7,.v (.box [ti cn,ti cs,.sl (aL cl)])),(11,.aI)]) (nxt':=1400) ?_ ?_ ?_ ?_) ?_;iterate 4(·simp)
 refine aa.le (Le.l8 (k:=11) 57 (sz:=4) (by omega) (by simp)) ?_;rw[im];refine aa.seq ?_;refine aa.ab aw fw [3,4,5,6,7,11,12] ?_;simp[aaS];refine aa.block ?_;refine aa.loop (λy:Nat=>⟨DM.look [(3,.v (ti fr)),(4,.v (ti to)),(5,.v (.box [ti nt,ti nn,ti ns,.sl (aS rules)])),(6,.v (.box [ti ls,.sl (ba aD),.sl (aB fin)])),(7,.v (.box [ti cn,ti cs,.sl (aL cl)])),(11,.bk 1400 0),(12,.v (ti y))],cA [(1400,.arr 0 57 4 (aL (List.replicate y fc)))],1600,1000,[]⟩)
  (λy=>(y:Int)<=nn) (λy=>nn.toNat-y) 0 (Le.aC ?_ ?_ ?_ ?_) (by omega) (λy hy=>?_)
 iterate 4(·simp)
 refine aa.seq ?_;refine aa.ab aw fw [3,4,5,6,7,11,12,19] ?_;simp[aaT];refine aa.cond rfl (λbM=>?_) (λbM=>?_)
 ·have bM:(y:Int)<nn:=by simpa using bM
  refine aa.skip ?_;simp;refine aa.seq ?_;refine aa.block ?_;refine aa.dp aw fw [3,4,5,6,7,11,12] ?_;simp[aaU,cG,chunk];refine⟨by omega, ?_⟩;refine aa.dp aw fw [3,4,5,6,7,11,12] ?_;simp[aaV];rw[au (x:=(y:Int)+1) (by omega)];refine⟨y+1,Le.aC ?_ ?_ ?_ ?_,by omega,by omega⟩
  ·simp
  ·simp
  ·simp[ZbR,aL,fc,Cell.enc]
  ·simp
 ·have fl:y=nn.toNat:=by simp at bM;omega
  subst fl;refine aa.exit ?_;simp;refine aa.seq ?_;refine aa.ab aw fw [3,4,5,6,7,11,13] ?_;simp[aaW];refine aa.block ?_;refine aa.loop (λz:SM=>⟨DM.look [(3,.v (ti fr)),(4,.v (ti to)),(5,.v (.box [ti nt,ti nn,ti ns,.sl (aS rules)])),(6,.v (.box [ti ls,.sl (ba aD),.sl (aB fin)])),(7,.v (.box [ti cn,ti cs,.sl (aL cl)])),(11,.bk 1400 0),(13,.v (.bool z.more))],cA [(1400,.arr 0 57 4 (aL z.own))],3000,1000,[]⟩)
   (λz=>kN ⟨nt,nn,ns,rules⟩ z.own/\(z.more=true->∃f,jB z.own<f/\tl ⟨nt,nn,ns,rules⟩ ⟨ls,aD,fin⟩ ⟨cn,cs,cl⟩ fr to f z.own=R)/\(z.more=false->z.own=R)) (λz=>2*jB z.own+(if z.more then 1 else 0)) ⟨Ct ⟨nt,nn,ns,rules⟩,true⟩ (Le.aC ?_ ?_ ?_ ?_) (⟨h00,λ_=>⟨_,ZbV _,hR⟩,λh=>by cases h⟩) (λz hy=>?_)
  ·simp
  ·simp
  ·simp[Ct]
  ·simp
  obtain⟨own,more⟩:=z;obtain⟨hz1,Xu,XN⟩:=hy;simp only at hz1 Xu XN⊢;refine aa.seq ?_;refine aa.ab aw fw [3,4,5,6,7,11,26] ?_;simp[aaX];refine aa.cond rfl (λhm=>?_) (λhm=>?_)
  ·have hm:more=true:=by simpa using hm
   subst hm;obtain⟨f,hf1,hf2⟩:=Xu rfl;refine aa.skip ?_;simp;refine aa.block ?_;refine aa.ab aw fw [3,4,5,6,7,11,13] ?_;simp[aaY];refine aa.ab aw fw [3,4,5,6,7,11,13,14] ?_;simp[aaZ];refine aa.block ?_;refine aa.loop (λy:Nat=>⟨DM.look [(3,.v (ti fr)),(4,.v (ti to)),(5,.v (.box [ti nt,ti nn,ti ns,.sl (aS rules)])),(6,.v (.box [ti ls,.sl (ba aD),.sl (aB fin)])),(7,.v (.box [ti cn,ti cs,.sl (aL cl)])),(11,.bk 1400 0),(13,.v (.bool (decide (du ⟨nt,nn,ns,rules⟩ ⟨ls,aD,fin⟩ ⟨cn,cs,cl⟩ fr to own y≠own)))),(14,.v (ti y))],cA [(1400,.arr 0 57 4 (aL (du ⟨nt,nn,ns,rules⟩ ⟨ls,aD,fin⟩ ⟨cn,cs,cl⟩ fr to own y)))],4000,1000,[]⟩)
    (λy=>y<=rules.length) (λy=>rules.length-y) 0 (Le.aC ?_ ?_ ?_ ?_) (by simp) (λy WD=>?_)
   ·simp
   ·simp[du]
   ·simp[du]
   ·simp[du]
   obtain⟨O,hO⟩:∃O,du ⟨nt,nn,ns,rules⟩ ⟨ls,aD,fin⟩ ⟨cn,cs,cl⟩ fr to own y=O:=⟨_,rfl⟩;obtain⟨pq,ME⟩:=zL own hz1 y WD;rw[hO]at pq ME;obtain⟨m1,wu⟩:∃m1:Bool,decide (O≠own)=m1:=⟨_,rfl⟩;rw[hO,wu];refine aa.seq ?_;refine aa.ab aw fw [3,4,5,6,7,11,13,14,31] ?_;simp[R8];refine aa.cond rfl (λbM=>?_) (λbM=>?_)
   ·have bM:y<rules.length:=by simpa using bM
    refine aa.skip ?_;simp;refine aa.seq ?_;refine aa.block ?_;obtain⟨r,hr⟩:∃r,rules.getD y default=r:=⟨_,rfl⟩;have jS:ud ⟨nt,nn,ns,rules⟩ r:=hn.2.2.2 r (by rw[<-hr];exact bw bM);have rr:=fT bM;rw[hr]at rr;obtain⟨⟨ic,iz,ir,ig⟩,hI⟩:∃q,dL ⟨nt,nn,ns,rules⟩ ⟨ls,aD,fin⟩ ⟨cn,cs,cl⟩ O fr to y=q:=⟨_,rfl⟩;refine aa.ab aw fw [3,4,5,6,7,11,13,14,15] ?_;simp[R9,and_assoc,hn,hl,hc,pq.ok,hI];refine⟨by omega,by omega,by omega, ?_⟩;refine aa.le (Le.aC (o:=[(1400,.arr 0 57 4 (aL O))]) (l:=[(3,.v (ti fr)),(4,.v (ti to)),(5,.v (.box [ti nt,ti nn,ti ns,.sl (aS rules)])),(6,.v (.box [ti ls,.sl (ba aD),.sl (aB fin)])),(7,.v (.box [ti cn,ti cs,.sl (aL cl)])),(11,.bk 1400 0),(13,.v (.bool m1)),(14,.v (ti y)),(15,.v (.box [ti ic,ti iz,ti ir,ti ig]))]) (nxt':=4400) ?_ ?_ ?_ ?_) ?_;iterate 4(·simp)
    obtain⟨rk,rh,ra,rb,rp,rg⟩:=r;obtain⟨q1,q2,q3,q4,q5⟩:=jS;simp only at q1 q2;obtain⟨rh,rfl⟩:=Zad q1;have KY:rh<O.length:=by have:=pq.1;simp only at this;omega
    have rx:=fq KY;obtain⟨⟨xc,xs,xr,xg⟩,hx⟩:∃x,O.getD rh default=x:=⟨_,rfl⟩;rw[hx]at rx;obtain⟨c1,bb⟩:∃c1:Bool,decide ((⟨ic,iz,ir,ig⟩:Cell)≠⟨xc,xs,xr,xg⟩)=c1:=⟨_,rfl⟩;refine aa.bY aw fw [(3,.v (ti fr)),(4,.v (ti to)),(5,.v (.box [ti nt,ti nn,ti ns,.sl (aS rules)])),(6,.v (.box [ti ls,.sl (ba aD),.sl (aB fin)])),(7,.v (.box [ti cn,ti cs,.sl (aL cl)])),(11,.bk 1400 0),(13,.v (.bool m1)),(14,.v (ti y)),(15,.v (.box [ti ic,ti iz,ti ir,ti ig])),(52,.v (.bool c1))] ?_ ?_
    ·simp[Sa,bM,rr,bC.enc,KY,rx,Cell.enc];simp at bb;exact bb
    refine aa.cond rfl (λh5=>?_) (λh5=>?_)
    ·rw[h5]at bb;have bb:=of_decide_eq_true bb;have lF:oM ⟨nt,nn,ns,rules⟩ ⟨ls,aD,fin⟩ ⟨cn,cs,cl⟩ fr to O y=O.set rh ⟨ic,iz,ir,ig⟩:=by unfold oM;simp only[hI,hr,Zak]
     have yH:du ⟨nt,nn,ns,rules⟩ ⟨ls,aD,fin⟩ ⟨cn,cs,cl⟩ fr to own (y+1)=O.set rh ⟨ic,iz,ir,ig⟩:=by rw[nA,hO,lF]
     have bG:¬du ⟨nt,nn,ns,rules⟩ ⟨ls,aD,fin⟩ ⟨cn,cs,cl⟩ fr to own (y+1)=own:=by
      intro e;have h4:=(hss O pq y bM).2 (by simp only[hI,hr,Zak,hx];exact bb);rw[lF,<-yH,e]at h4;rcases ME with h|h
      ·rw[h.1]at h4;omega
      ·omega
     refine aa.dp aw fw [3,4,5,6,7,11,13,14] ?_;simp[Sb,bM,rr,bC.enc,KY,rx,Cell.enc];refine aa.dp aw fw [3,4,5,6,7,11,13,14] ?_;simp[Kl];rw[au (x:=(y:Int)+1) (by omega)];refine⟨y+1,Le.aC ?_ ?_ ?_ ?_,by omega,by omega⟩
     ·simp
     ·simp
     ·simp[yH,pJ,Cell.enc]
     ·simp;simpa using bG
    ·rw[h5]at bb;have bb:=Classical.not_not.1 (of_decide_eq_false bb);have yH:du ⟨nt,nn,ns,rules⟩ ⟨ls,aD,fin⟩ ⟨cn,cs,cl⟩ fr to own (y+1)=O:=by rw[nA,hO];unfold oM;simp only[hI,hr,Zak];exact Bl (by rw[hx];exact bb)
     have bG:=wu;rw[<-yH]at bG;refine aa.skip ?_;simp;refine aa.dp aw fw [3,4,5,6,7,11,13,14] ?_;simp[Kl];rw[au (x:=(y:Int)+1) (by omega)];refine⟨y+1,Le.aC ?_ ?_ ?_ ?_,by omega,by omega⟩
     ·simp
     ·simp
     ·simp[yH,pJ,Cell.enc]
     ·simp;simpa using bG
   ·have wR:y=rules.length:=by simp at bM;omega
    subst wR;have CT:=O4 ((zL own hz1 _ (Zae _)).2.imp And.left id) hf1 hf2;simp only[hO]at CT;have hdec:2*jB O+(if m1 then 1 else 0)<2*jB own+1:=by
     by_cases e:O=own
     ·have Ed:m1=false:=by rw[<-wu];simp[e]
      subst Ed;rw[e];simp
     ·have:=(CT.1 e).1;cases m1<;>simp<;>omega
    refine aa.exit ?_;simp;refine⟨⟨O,m1⟩,Le.aC ?_ ?_ ?_ ?_,⟨pq,λh=>(CT.1 (of_decide_eq_true (wu.trans h))).2,λh=>by have e:=Classical.not_not.1 (of_decide_eq_false (wu.trans h));simp only;rw[e];exact CT.2 e⟩,by simpa using hdec⟩;iterate 3(·simp)
    ·simp
  ·have hm:more=false:=by simpa using hm
   subst hm;have XN:=XN rfl;subst XN;refine aa.exit ?_;simp;refine aa.ab aw fw [10] ?_;simp[Sc];refine aa.ret ?_;exact .inr ⟨1400,0,by simp,by simp⟩
theorem vO(l:List Cell):gf.gE (aL l).flatten=true:=by
 induction l with
 |nil=>rfl
 |cons x l ih=>simpa [aL,Cell.enc,gf.gE,gf]using ih
theorem Bo{st:Int}{f k:Nat}(h:(k:Int)<=st)(hf:f<=k):pre st f<=pre st k:=by
 induction k with
 |zero=>
   obtain rfl:f=0:=by omega
   omega
 |succ k ih=>
  by_cases e:f=k+1
  ·subst e;omega
  ·have:=ih (by omega) (by omega);simp only[pre];omega
theorem Fa(st:Int):∀n:Nat,2*pre st n=n*(2*st-n+1)
 |0=>by simp[pre]
 |n+1=>by
  have:=Fa st n;simp only[pre];have e:2*(pre st n+st-n)=2*pre st n+2*st-2*n:=by omega
  rw[e,this]
  push_cast
  grind
theorem kQ{nn st:Int}(h:0<=st):dQ nn st=nn*pre st st.toNat:=by
 unfold dQ;have h2:=Fa st st.toNat;rw[show((st.toNat:Nat):Int)=st by omega]at h2;have e:nn*st*(st+1)=2*(nn*pre st st.toNat):=by grind
 rw[e];omega
theorem vK{nn st:Int}{f t:Nat}(h1:0<nn)(h3:(t:Int)<st)(h4:f<=t){i:Int}(hi:i<nn):cJ nn st f t+i<dQ nn st:=by
 rw[kQ (by omega)];have h5:=Bo (st:=st) (f:=f+1) (k:=st.toNat) (by omega) (by omega);simp only[pre]at h5;have h6:(pre st f+t-f+1)*nn<=pre st st.toNat*nn:=ZbZ (by omega) (by omega);unfold cJ;rw[Int.mul_comm nn];have:(pre st f+t-f+1)*nn=(pre st f+t-f)*nn+nn:=by grind
 omega
def l9(cells own:List Cell)(at':Nat)(y:Nat):List Cell:=(List.range y).foldl (λcs i=>cs.set (at'+i) (own.getD i default)) cells
theorem mm(cells own:List Cell)(at' y:Nat):l9 cells own at' (y+1)=(l9 cells own at' y).set (at'+y) (own.getD y default):=by simp[l9,ZaE,Zat]
@[simp] theorem vI(cells own:List Cell)(at' y:Nat):(l9 cells own at' y).length=cells.length:=by
 induction y with
 |zero=>rfl
 |succ y ih=>rw[mm,ZcN,ih]
theorem T7{cells own:List Cell}{at' y:Nat}{x:Cell}(h:x∈l9 cells own at' y)(hy:y<=own.length):x∈cells\/x∈own:=by
 induction y with
 |zero=>exact .inl h
 |succ y ih=>
  rw[mm]at h;rcases Za0 h with h|rfl
  ·exact ih h (by omega)
  ·exact .inr (bw (by omega))
def rJ(n:aG)(l:aM)(len:Nat)(cells:List Cell)(f:Nat):List Cell:=
 l9 cells (ji n l ⟨n.an,l.aN,cells⟩ f ((f:Int)+len)) (cJ n.an l.aN f (f+len)).toNat n.an.toNat
def H9(n:aG)(l:aM)(cells:List Cell)(len:Nat):List Cell:=(List.range (l.aN.toNat-len)).foldl (rJ n l len) cells
def iS(n:aG)(l:aM):List Cell:=(List.range l.aN.toNat).foldl (H9 n l) (List.replicate (dQ n.an l.aN).toNat ⟨0,0,0,0⟩)
def cC(n:aG)(l:aM):bV:=⟨n.an,l.aN,iS n l⟩
abbrev s23:DM.Spec:=cy (λts=>∃n s:Int,ts=[ti n,ti s]/\0<=n/\n<=1000000/\0<=s/\s<=1000000) (fun|[.int _ n,.int _ s]=>ti (dQ n s)|_=>.bool false) true
abbrev s24:DM.Spec:=yo (λts=>∃nt nn ns rules ls aD fin cn cs cl,∃fr to:Int,ts=[.agg [ti nt,ti nn,ti ns,.sl (aS rules)],.agg [ti ls,.sl (ba aD),.sl (aB fin)],.agg [ti cn,ti cs,.sl (aL cl)],ti fr,ti to]/\
  oK ⟨nt,nn,ns,rules⟩/\vD ⟨ls,aD,fin⟩/\Cs ⟨cn,cs,cl⟩/\0<=fr/\fr<=to/\to<=1000)
 (fun|[n,l,c,.int _ fr,.int _ to]=>aL (ji (nR n) (tZ l) (pG c) fr to)|_=>[]) 57 4
theorem okB:ay Tryz.prog (aW [(24,s24),(23,s23),(25,s25)]):=by
 refine ay.Q1 (ay.cons (ay.cons ay.nil ?_) ?_) ?_
 ·rintro ts ⟨n,st,f,t,rfl,h1,h2,h3,h4,h5,h6,h7⟩;obtain⟨f,rfl⟩:=Zad h4;obtain⟨t,rfl⟩:=Zad (a:=t) (by omega);exact⟨by simpa using t25 n st f t h1 h2 h3 h5 (by omega) (by omega),λ_=>rfl⟩
 ·rintro ts ⟨n,s,rfl,h1,h2,h3,h4⟩;exact⟨by simpa using t23 n s h1 h2 h3 h4,λ_=>rfl⟩
 ·rintro ts ⟨nt,nn,ns,rules,ls,aD,fin,cn,cs,cl,fr,to,rfl,h1,h2,h3,h4,h5,h6⟩;obtain⟨fr,rfl⟩:=Zad h4;obtain⟨to,rfl⟩:=Zad (a:=to) (by omega);exact⟨by simpa [aG.enc,aM.enc,bV.enc]using t24 ⟨nt,nn,ns,rules⟩ ⟨ls,aD,fin⟩ ⟨cn,cs,cl⟩ fr to h1 h2 h3 (by omega) (by omega),vO _⟩
theorem vJ{n:aG}{l:aM}{c:bV}{fr to:Nat}(hn:oK n)(hl:vD l)(hc:Cs c)(p8:fr<=to)(iY:to<=1000):kN n (ji n l c fr to):=
 (Bn hn hl hc p8 iY (λ_=>True) trivial λ_ _ _ _ _=>trivial).1
def fK(n:aG)(l:aM)(cells:List Cell):Prop:=(cells.length:Int)=dQ n.an l.aN/\∀x∈cells,kL x.val
theorem fK.ok{n:aG}{l:aM}{cells:List Cell}(hn:oK n)(hl:vD l)(h:fK n l cells):Cs ⟨n.an,l.aN,cells⟩:=by
 have h1:=hn.1;have h2:=hn.2.1;have h3:=hl.1;have h4:=hl.2.1;refine⟨by simp only;omega,h2,by simp only;omega,h4, ?_,h.2⟩;have:=kQ (nn:=n.an) (st:=l.aN) (by omega);have hb:=(dY h4 l.aN.toNat (by omega));have:=cN (a:=n.an) (A:=1000) (b:=pre l.aN l.aN.toNat) (B:=1000000) (by omega) (by omega) hb.1 (by omega);have:=h.1;simp only;omega
theorem fK.step{n:aG}{l:aM}{cells:List Cell}(hn:oK n)(hl:vD l)(h:fK n l cells){f len y:Nat}(p8:f+len<=1000)(hy:y<=n.an.toNat)(a:Nat):fK n l (l9 cells (ji n l ⟨n.an,l.aN,cells⟩ f ((f:Int)+len)) a y):=by
 have ho:=vJ hn hl (h.ok hn hl) (fr:=f) (to:=f+len) (by omega) p8;rw[show((f+len:Nat):Int)=(f:Int)+len by omega]at ho;refine⟨by rw[vI];exact h.1,λx hx=>?_⟩;rcases T7 hx (by have:=ho.1;omega)with hx|hx
 ·exact h.2 x hx
 ·exact(ho.2 x hx).1
theorem vL{n:aG}{l:aM}{cells:List Cell}(hn:oK n)(hl:vD l)(h:fK n l cells){len:Nat}:∀k,(k+len:Nat)<=1001->fK n l ((List.range k).foldl (rJ n l len) cells)
 |0,_=>h
 |k+1,hk=>by
  rw[ZaE,Zat];exact(vL hn hl h k (by omega)).step hn hl (by omega) (Zae _) _
theorem T8{n:aG}{l:aM}(hn:oK n)(hl:vD l):fK n l (List.replicate (dQ n.an l.aN).toNat ⟨0,0,0,0⟩):=by
 have h4:=hl.2.1;have hb:=(dY h4 l.aN.toNat (by have:=hl.1;omega));have:=Zch (a:=n.an) (by have:=hn.1;omega) hb.1;have:=kQ (nn:=n.an) (st:=l.aN) (by have:=hl.1;omega);refine⟨by rw[ZbC];omega,λx hx=>?_⟩;rw[ZbG hx];simp[kL]
theorem vE{n:aG}{l:aM}(hn:oK n)(hl:vD l):∀k:Nat,(k:Int)<=l.aN->fK n l ((List.range k).foldl (H9 n l) (List.replicate (dQ n.an l.aN).toNat ⟨0,0,0,0⟩)):=by
 intro k;induction k with
 |zero=>intro _;exact T8 hn hl
 |succ k ih=>
  intro hk;rw[ZaE,Zat];exact vL hn hl (ih (by omega)) _ (by have:=hl.2.1;omega)
theorem t11(n:aG)(l:aM)(hn:oK n)(hl:vD l):aT Tryz.prog 11 [n.enc,l.enc] (cC n l).enc:=by
 obtain⟨R,hR⟩:∃R,iS n l=R:=⟨_,rfl⟩;have xp:cC n l=⟨n.an,l.aN,R⟩:=by rw[<-hR];rfl
 rw[xp];unfold iS at hR;have h0:=T8 hn hl;have cS:=vE hn hl;have lW:=λcells (h:fK n l cells) len=>vL hn hl h (len:=len);have lF:=λcells (h:fK n l cells) f len y=>h.step hn hl (f:=f) (len:=len) (y:=y);have aF:=λcells (h:fK n l cells)=>h.ok hn hl;obtain⟨nt,nn,ns,rules⟩:=n;obtain⟨ls,aD,fin⟩:=l;have aw:=okB;have P1:1<=nn:=hn.1;have O5:nn<=1000:=hn.2.1;have wy:1<=ls:=hl.1;have qe:ls<=1000:=hl.2.1;simp only at hR h0 cS lW lF aF;have uA:0<=dQ nn ls/\dQ nn ls<=1000000000:=by
  have:=(aF _ h0).2.2.2.2.1;have:=h0.1;simp only at*
  have:=kQ (nn:=nn) (st:=ls) (by omega);have hb:=(dY qe ls.toNat (by omega));have:=cN (a:=nn) (A:=1000) (b:=pre ls ls.toNat) (B:=1000000) (by omega) (by omega) hb.1 (by omega);omega
 have aw:=okB;refine c11.ok (by simp) (aJ ?_);simp[aG.enc,aM.enc,bV.enc];refine aa.ab aw fw [2,3,4] ?_;simp[aa0];refine aa.le (Le.aC (o:=[(1005,.box [.v (ti 0),.v (ti 0),.aI])]) (l:=[(2,.v (.box [ti nt,ti nn,ti ns,.sl (aS rules)])),(3,.v (.box [ti ls,.sl (ba aD),.sl (aB fin)])),(4,.ptr 1005 0)]) (nxt':=1200) ?_ ?_ ?_ ?_) ?_;iterate 4(·simp)
 refine aa.ab aw fw [2,3,4,5] ?_;simp[aa1,and_assoc,cG];repeat (refine⟨by omega, ?_⟩)
 refine aa.le (Le.aC (o:=[(1005,.box [.v (ti 0),.v (ti 0),.aI]),(1206,.box [.v (ti nn),.v (ti ls),.bk 1221 0]),(1221,.arr 0 57 4 (aL ((List.replicate (dQ nn ls).toNat ⟨0,0,0,0⟩))))]) (l:=[(2,.v (.box [ti nt,ti nn,ti ns,.sl (aS rules)])),(3,.v (.box [ti ls,.sl (ba aD),.sl (aB fin)])),(4,.ptr 1005 0),(5,.ptr 1206 0)]) (nxt':=1400) ?_ ?_ ?_ ?_) ?_
 ·simp
 ·simp
 ·simp[aL,Cell.enc]
 ·simp
 refine aa.seq ?_;refine aa.ab aw fw [2,3,4,5,6] ?_;simp[aa2];refine aa.block ?_;refine aa.loop (λa:Nat=>⟨DM.look [(2,.v (.box [ti nt,ti nn,ti ns,.sl (aS rules)])),(3,.v (.box [ti ls,.sl (ba aD),.sl (aB fin)])),(4,.ptr 1005 0),(5,.ptr 1206 0),(6,.v (ti a))],cA [(1005,.box [.v (ti 0),.v (ti 0),.aI]),(1206,.box [.v (ti nn),.v (ti ls),.bk 1221 0]),(1221,.arr 0 57 4 (aL ((List.range a).foldl (H9 ⟨nt,nn,ns,rules⟩ ⟨ls,aD,fin⟩) (List.replicate (dQ nn ls).toNat ⟨0,0,0,0⟩))))],2000,1000,[]⟩)
  (λa=>(a:Int)<=ls) (λa=>ls.toNat-a) 0 (Le.aC ?_ ?_ ?_ ?_) (by omega) (λa hy=>?_)
 iterate 4(·simp)
 obtain⟨A,hA⟩:∃A,(List.range a).foldl (H9 ⟨nt,nn,ns,rules⟩ ⟨ls,aD,fin⟩) (List.replicate (dQ nn ls).toNat ⟨0,0,0,0⟩)=A:=⟨_,rfl⟩;have hA1:=cS a hy;rw[hA]at hA1;rw[hA];refine aa.seq ?_;refine aa.ab aw fw [2,3,4,5,6,25] ?_;simp[aa3];refine aa.cond rfl (λbM=>?_) (λbM=>?_)
 ·have bM:(a:Int)<ls:=by simpa using bM
  refine aa.skip ?_;simp;refine aa.seq ?_;refine aa.block ?_;refine aa.ab aw fw [2,3,4,5,6,7] ?_;simp[aa4];refine aa.block ?_;refine aa.loop (λb:Nat=>⟨DM.look [(2,.v (.box [ti nt,ti nn,ti ns,.sl (aS rules)])),(3,.v (.box [ti ls,.sl (ba aD),.sl (aB fin)])),(4,.ptr 1005 0),(5,.ptr 1206 0),(6,.v (ti a)),(7,.v (ti b))],cA [(1005,.box [.v (ti 0),.v (ti 0),.aI]),(1206,.box [.v (ti nn),.v (ti ls),.bk 1221 0]),(1221,.arr 0 57 4 (aL ((List.range b).foldl (rJ ⟨nt,nn,ns,rules⟩ ⟨ls,aD,fin⟩ a) A)))],3000,1000,[]⟩)
   (λb=>(b:Int)+a<=ls) (λb=>ls.toNat-a-b) 0 (Le.aC ?_ ?_ ?_ ?_) (by simp;omega) (λb hb=>?_)
  iterate 4(·simp)
  obtain⟨B,hB⟩:∃B,(List.range b).foldl (rJ ⟨nt,nn,ns,rules⟩ ⟨ls,aD,fin⟩ a) A=B:=⟨_,rfl⟩;have hB1:=lW A hA1 a b (by omega);rw[hB]at hB1;rw[hB];refine aa.seq ?_;refine aa.ab aw fw [2,3,4,5,6,7,33] ?_;simp[aa5,au (x:=(b:Int)+a) (by omega)];refine aa.cond rfl (λXO=>?_) (λXO=>?_)
  ·have XO:(b:Int)+a<ls:=by simpa using XO
   refine aa.skip ?_;simp;refine aa.seq ?_;refine aa.block ?_;have w1:IntKind.i64.wrap ((b:Int)+a)=(b:Int)+a:=au (by omega);obtain⟨own,eX⟩:∃q,ji ⟨nt,nn,ns,rules⟩ ⟨ls,aD,fin⟩ ⟨nn,ls,B⟩ b ((b:Int)+a)=q:=⟨_,rfl⟩;have hokB:=aF B hB1;have XP:=vJ hn hl hokB (fr:=b) (to:=b+a) (by omega) (by omega);rw[show((b+a:Nat):Int)=(b:Int)+a by omega,eX]at XP;have hol:(own.length:Int)=nn:=XP.1;refine aa.iD aw fw (rs:=Km) (.inr ⟨_,rfl⟩) (by kernel_rfl) [2,3,4,5,6,7,8] ?_;simp[Km,and_assoc,w1,hn,hl,hokB,eX];repeat (refine⟨by omega, ?_⟩)
   refine aa.le (Le.aC (o:=[(1005,.box [.v (ti 0),.v (ti 0),.aI]),(1206,.box [.v (ti nn),.v (ti ls),.bk 1221 0]),(1221,.arr 0 57 4 (aL (B)))]) (l:=[(2,.v (.box [ti nt,ti nn,ti ns,.sl (aS rules)])),(3,.v (.box [ti ls,.sl (ba aD),.sl (aB fin)])),(4,.ptr 1005 0),(5,.ptr 1206 0),(6,.v (ti a)),(7,.v (ti b)),(8,.v (.sl (aL own)))]) (nxt':=3400) ?_ ?_ ?_ ?_) ?_;iterate 4(·simp)
   obtain⟨ml,dI⟩:∃q,cJ nn ls b (b+a)=q:=⟨_,rfl⟩;have Nj:=jZ (n:=nn) (st:=ls) (f:=b) (t:=b+a) (by omega) O5 qe (by omega) (by omega) (by omega);have hix:=λ(i:Int) (hi:i<nn)=>vK (nn:=nn) (st:=ls) (f:=b) (t:=b+a) (by omega) (by omega) (by omega) hi;rw[dI]at Nj hix;obtain⟨ml,rfl⟩:=Zad Nj.1;have e1:((b:Int)+a).toNat=b+a:=by omega
   have T9:rJ ⟨nt,nn,ns,rules⟩ ⟨ls,aD,fin⟩ a B b=l9 B own ml own.length:=by unfold rJ;simp only[eX,dI,Zak];rw[show nn.toNat=own.length by omega]
   refine aa.ab aw fw [2,3,4,5,6,7,8,9] ?_;simp[aa6,and_assoc,w1,e1,dI];repeat (refine⟨by omega, ?_⟩)
   refine aa.ab aw fw [2,3,4,5,6,7,8,9,10] ?_;simp[aa7];refine aa.block ?_;refine aa.loop (λy:Nat=>⟨DM.look [(2,.v (.box [ti nt,ti nn,ti ns,.sl (aS rules)])),(3,.v (.box [ti ls,.sl (ba aD),.sl (aB fin)])),(4,.ptr 1005 0),(5,.ptr 1206 0),(6,.v (ti a)),(7,.v (ti b)),(8,.v (.sl (aL own))),(9,.v (ti ml)),(10,.v (ti y))],cA [(1005,.box [.v (ti 0),.v (ti 0),.aI]),(1206,.box [.v (ti nn),.v (ti ls),.bk 1221 0]),(1221,.arr 0 57 4 (aL (l9 B own ml y)))],4000,1000,[]⟩)
    (λy=>y<=own.length) (λy=>own.length-y) 0 (Le.aC ?_ ?_ ?_ ?_) (by simp) (λy WD=>?_)
   ·simp
   ·simp
   ·simp[l9]
   ·simp
   refine aa.seq ?_;refine aa.ab aw fw [2,3,4,5,6,7,8,9,10,56] ?_;simp[aa8];refine aa.cond rfl (λh9=>?_) (λh9=>?_)
   ·have h9:y<own.length:=by simpa using h9
    refine aa.skip ?_;simp;refine aa.seq ?_;refine aa.block ?_;have ro:=fq h9;obtain⟨x,hx⟩:∃x,own.getD y default=x:=⟨_,rfl⟩;rw[hx]at ro;have MH:(B.length:Int)=dQ nn ls:=hB1.1;have cW:=hix y (by omega);have Fb:ml+y<B.length:=by omega
    have rz:=fq (l:=l9 B own ml y) (y:=ml+y) (by simpa using Fb);rw[show((ml+y:Nat):Int)=(ml:Int)+y by omega]at rz;have e2:((ml:Int)+y).toNat=ml+y:=by omega
    have w2:IntKind.i64.wrap ((ml:Int)+y)=((ml+y:Nat):Int):=by rw[au (by omega)];omega
    refine aa.dp aw fw [2,3,4,5,6,7,8,9,10] ?_;simp[Sd,w2,h9,ro,Cell.enc,Fb,rz,e2];repeat (refine⟨by omega, ?_⟩)
    refine aa.dp aw fw [2,3,4,5,6,7,8,9,10] ?_;simp[Se];rw[au (x:=(y:Int)+1) (by omega)];refine⟨y+1,Le.aC ?_ ?_ ?_ ?_,by omega,by omega⟩
    ·simp
    ·simp
    ·simp[mm,pJ,-List.getD_eq_getElem?_getD,hx,Cell.enc]
    ·simp
   ·have wR:y=own.length:=by simp at h9;omega
    subst wR;refine aa.exit ?_;simp;refine aa.dp aw fw [2,3,4,5,6,7] ?_;simp[Sf];rw[au (x:=(b:Int)+1) (by omega)];refine⟨b+1,Le.aC ?_ ?_ ?_ ?_,by omega,by omega⟩
    ·simp
    ·simp
    ·simp[ZaE,Zat,hB,T9]
    ·simp
  ·have fl:b=ls.toNat-a:=by simp at XO;omega
   subst fl;refine aa.exit ?_;simp;refine aa.dp aw fw [2,3,4,5,6] ?_;simp[Sg];rw[au (x:=(a:Int)+1) (by omega)];refine⟨a+1,Le.aC ?_ ?_ ?_ ?_,by omega,by omega⟩
   ·simp
   ·simp
   ·simp[ZaE,Zat,hA,H9,hB]
   ·simp
 ·have fl:a=ls.toNat:=by simp at bM;omega
  subst fl;rw[hR]at hA;subst hA;refine aa.exit ?_;simp;refine aa.ab aw fw [4] ?_;simp[Si];refine aa.ret ?_;simp[Sj]
def nv(h f t cf co cn st:Int):Prop:=h<0\/f<0\/t<f\/t>=st\/cf<0\/co<0\/cn<0\/cn>60\/cf>(st-1)/2\/co>(st-1)/2-cf
instance(h f t cf co cn st:Int):Decidable (nv h f t cf co cn st):=by unfold nv;infer_instance
def E4(t:Int):Int:=if t % 2=1 then(t-1)/2+2 else t/2
structure KR where
 (h f t:Int)
 ok:Bool
def gH(h f t cf co cn st:Int):KR:=
 if nv h f t cf co cn st then⟨0,0,0,false⟩else if E4 t<=cf then⟨h,f,t,true⟩else if f/2>=cf+co then⟨h,f+2*(cn-co),t+2*(cn-co),true⟩else⟨0,0,0,false⟩
def KR.enc(k:KR):T:=.eF [.agg [ti k.h,ti k.f,ti k.t],.bool k.ok]
theorem t41(t:Int)(h1:0<=t)(h2:t<=1000000):aT Tryz.prog 41 [ti t] (ti (E4 t)):=by
 obtain⟨R,hR⟩:∃R,E4 t=R:=⟨_,rfl⟩;rw[hR];unfold E4 at hR;have m1:IntKind.i64.wrap (t.tmod 2)=t % 2:=by rw[GB h1];exact au (by omega)
 have m2:IntKind.i64.wrap (t.tdiv 2)=t/2:=by rw[p0 h1];exact au (by omega)
 have m3:IntKind.i64.wrap (t-1)=t-1:=au (by omega);have aw:=ed;refine c41.ok (by simp) (aJ ?_);simp;refine aa.ab aw fw [0] ?_;simp[abv];refine aa.seq ?_;refine aa.ab aw fw [0,5] ?_;simp[abw];refine aa.cond rfl (λg=>?_) (λg=>?_)
 ·have g:t % 2=0:=by simpa [GB h1]using g
  rw[if_neg (by omega)]at hR;refine aa.ab aw fw [2] ?_;simp[abx,m2];refine aa.ret ?_;simp[Kn,hR]
 ·have g:¬t % 2=0:=by simpa [GB h1]using g
  rw[if_pos (by omega)]at hR;have m4:IntKind.i64.wrap ((t-1).tdiv 2)=(t-1)/2:=by rw[p0 (by omega)];exact au (by omega)
  have m5:IntKind.i64.wrap ((t-1)/2+2)=(t-1)/2+2:=au (by omega);refine aa.skip ?_;simp;refine aa.ab aw fw [2] ?_;simp[aby,m3,m4,m5];refine aa.ret ?_;simp[Kn,hR]
abbrev s41:DM.Spec:=cy (λts=>∃t,ts=[ti t]/\0<=t/\t<=1000000) (fun|[.int _ t]=>ti (E4 t)|_=>.bool false) true
theorem ok41:ay Tryz.prog (aW [(41,s41)]):=by
 refine ay.cons ay.nil ?_;rintro ts ⟨t,rfl,h1,h2⟩;exact⟨t41 t h1 h2,λ_=>rfl⟩
theorem t18(h f t cf co cn st:Int)(hs:1<=st)(N9:st<=10000):aT Tryz.prog 18 [.agg [ti h,ti f,ti t],.agg [ti cf,ti co,ti cn],ti st] (gH h f t cf co cn st).enc:=by
 obtain⟨R,hR⟩:∃R,gH h f t cf co cn st=R:=⟨_,rfl⟩;rw[hR];unfold gH at hR;have w1:IntKind.i64.wrap (st-1)=st-1:=au (by omega);have w2:IntKind.i64.wrap ((st-1).tdiv 2)=(st-1)/2:=by rw[p0 (by omega)];exact au (by omega)
 have aw:=ok41;refine c18.ok (by simp) (aJ ?_);simp;refine aa.ab aw fw [2,3,4,6] ?_;simp[abz];refine aa.le (Le.aC (o:=[(1007,.box [.v (ti 0),.v (ti 0),.v (ti 0)])]) (l:=[(2,.v (ti st)),(3,.v (.box [ti h,ti f,ti t])),(4,.v (.box [ti cf,ti co,ti cn])),(6,.ptr 1007 0)]) (nxt':=1200) ?_ ?_ ?_ ?_) ?_;iterate 4(·simp)
 refine aa.seq ?_;obtain⟨c1,bb⟩:∃c1:Bool,decide (h<0\/f<0\/t<f\/t>=st\/cf<0\/co<0\/cn<0\/cn>60\/cf>(st-1)/2\/co>(st-1)/2-cf)=c1:=⟨_,rfl⟩;refine aa.bY aw fw [(3,.v (.box [ti h,ti f,ti t])),(4,.v (.box [ti cf,ti co,ti cn])),(6,.ptr 1007 0),(68,.v (.bool c1))] ?_ ?_
 ·by_cases q1:h<0
  ·have:c1=true:=by rw[<-bb];simp[q1]
   simp[p6,q1,this]
  ·skip
   by_cases q2:f<0
   ·have:c1=true:=by rw[<-bb];simp[q2]
    simp[p6,q1,q2,this]
   ·skip
    by_cases q3:t<f
    ·have:c1=true:=by rw[<-bb];simp[q3]
     simp[p6,q1,q2,q3,this]
    ·skip
     by_cases q4:t>=st
     ·have:c1=true:=by rw[<-bb];simp[q4]
      simp[p6,q1,q2,q3,q4,this]
     ·skip
      by_cases q5:cf<0
      ·have:c1=true:=by rw[<-bb];simp[q5]
       simp[p6,q1,q2,q3,q4,q5,this]
      ·skip
       by_cases q6:co<0
       ·have:c1=true:=by rw[<-bb];simp[q6]
        simp[p6,q1,q2,q3,q4,q5,q6,this]
       ·skip
        by_cases q7:cn<0
        ·have:c1=true:=by rw[<-bb];simp[q7]
         simp[p6,q1,q2,q3,q4,q5,q6,q7,this]
        ·skip
         by_cases q8:cn>60
         ·have:c1=true:=by rw[<-bb];simp[q8]
          simp[p6,q1,q2,q3,q4,q5,q6,q7,q8,this]
         ·skip
          by_cases q9:cf>(st-1)/2
          ·have:c1=true:=by rw[<-bb];simp[q9]
           simp[p6,q1,q2,q3,q4,q5,q6,q7,q8,q9,this,w1,w2]
          ·skip
           have w3:IntKind.i64.wrap ((st-1)/2-cf)=(st-1)/2-cf:=au (by omega);by_cases WB:co>(st-1)/2-cf
           ·have:c1=true:=by rw[<-bb];simp[WB]
            simp[p6,q1,q2,q3,q4,q5,q6,q7,q8,q9,WB,this,w1,w2,w3]
           ·skip
            have:c1=false:=by rw[<-bb];simp[q1,q2,q3,q4,q5,q6,q7,q8,q9,WB]
            simp[p6,q1,q2,q3,q4,q5,q6,q7,q8,q9,WB,this,w1,w2,w3]
 refine aa.cond rfl (λg1=>?_) (λg1=>?_)
 ·rw[g1]at bb;rw[if_pos (show nv h f t cf co cn st from of_decide_eq_true bb)]at hR;subst hR;refine aa.ab aw fw [6,7] ?_;simp[abA];refine aa.ret ?_;simp[A2,KR.enc]
 ·rw[g1]at bb;have bb:=of_decide_eq_false bb;rw[if_neg (show ¬nv h f t cf co cn st from bb)]at hR;have m6:IntKind.i64.wrap (f.tdiv 2)=f/2:=by rw[p0 (by omega)];exact au (by omega)
  have m7:IntKind.i64.wrap (cf+co)=cf+co:=au (by omega);have m8:IntKind.i64.wrap (cn-co)=cn-co:=au (by omega);have m9:IntKind.i64.wrap (2*(cn-co))=2*(cn-co):=au (by omega);have m10:IntKind.i64.wrap (f+2*(cn-co))=f+2*(cn-co):=au (by omega);have m11:IntKind.i64.wrap (t+2*(cn-co))=t+2*(cn-co):=au (by omega);refine aa.skip ?_;simp;refine aa.seq ?_;refine aa.ab aw fw [3,4,6,75] ?_;simp[abB];repeat (refine⟨by omega, ?_⟩)
  refine aa.cond rfl (λg3=>?_) (λg3=>?_)
  ·rw[if_pos (by simpa using g3)]at hR;subst hR;refine aa.ab aw fw [6,7] ?_;simp[abC];refine aa.ret ?_;simp[A2,KR.enc]
  ·rw[if_neg (by simpa using g3)]at hR;refine aa.skip ?_;simp;refine aa.seq ?_;refine aa.ab aw fw [3,4,6,85] ?_;simp[abD,m6,m7];refine aa.cond rfl (λg4=>?_) (λg4=>?_)
   ·rw[if_pos (by simpa using g4)]at hR;subst hR;refine aa.ab aw fw [3,6,8] ?_;simp[abE,m8,m9];refine aa.ab aw fw [6,7] ?_;simp[abF,m10,m11];refine aa.ret ?_;simp[A2,KR.enc]
   ·rw[if_neg (by simpa using g4)]at hR;subst hR;refine aa.skip ?_;simp;refine aa.ab aw fw [6,7] ?_;simp[abG];refine aa.ret ?_;simp[A2,KR.enc]
structure Ask where
 n:aG
 x:Input
 (fr od:Int)
 new:List bD
def Ask.enc(z:Ask):T:=.agg [ti z.n.aV,ti z.n.an,ti z.n.start,.sl (aS z.n.rules),.sl (aZ z.x.aj),.sl (aB z.x.insert),ti z.x.swap,ti z.fr,ti z.od,.sl (aZ z.new)]
def cQ(x:Input)(fr od:Nat)(new:List bD):Input:=⟨x.aj.take fr++new++x.aj.drop (fr+od),x.insert,x.swap⟩
theorem su(l:List bD):∀r∈aZ l,r.length=3:=by
 intro r hr;simp only[aZ,Zal]at hr;obtain⟨c,_,rfl⟩:=hr;rfl
theorem E5(a b:List bD):aZ (a++b)=aZ a++aZ b:=by simp[aZ]
theorem KQ(a:List bD)(n:Nat):(aZ a).take n=aZ (a.take n):=by simp[aZ,List.map_take]
theorem KS(a:List bD)(n:Nat):(aZ a).drop n=aZ (a.drop n):=by simp[aZ,List.map_drop]
theorem t38(x:Input)(fr od:Nat)(new:List bD)(h1:fr<=x.aj.length)(h2:od<=x.aj.length-fr)(h3:x.aj.length<=1000000)(h4:new.length<=1000000):
  aT Tryz.prog 38 [x.enc,ti fr,ti od,.sl (aZ new)] (cQ x fr od new).enc:=by
 obtain⟨R,hR⟩:∃R,(cQ x fr od new).aj=R:=⟨_,rfl⟩;have xp:cQ x fr od new=⟨R,x.insert,x.swap⟩:=by rw[<-hR];rfl
 rw[xp];simp only[cQ]at hR;obtain⟨ct,ins,sw⟩:=x;simp only at h1 h2 h3 hR;have w1:IntKind.i64.wrap ((fr:Int)+od)=(fr:Int)+od:=au (by omega);have e1:((fr:Int)+od).toNat=fr+od:=by omega
 obtain⟨A,hA⟩:∃A,ct.take fr=A:=⟨_,rfl⟩;obtain⟨B,hB⟩:∃B,ct.drop (fr+od)=B:=⟨_,rfl⟩;have hAl:A.length<=1000000:=by rw[<-hA];simp;omega
 have hBl:B.length<=1000000:=by rw[<-hB];simp;omega
 rw[hA,hB]at hR;subst hR;have Gt:=su A;have xq:=su B;have hrn:=su new;have aw:=ed;refine c38.ok (by simp) (aJ ?_);simp[Input.enc];refine aa.ab aw fw [1,2,3,4,8] ?_;simp[He];refine aa.le (Le.aC (o:=[(1009,.box [.aI,.aI,.v (ti 0)])]) (l:=[(1,.v (ti fr)),(2,.v (ti od)),(3,.v (.sl (aZ new))),(4,.v (.box [.sl (aZ ct),.sl (aB ins),ti sw])),(8,.ptr 1009 0)]) (nxt':=1200) ?_ ?_ ?_ ?_) ?_;iterate 4(·simp)
 refine aa.ab aw fw [1,2,3,4,8,9] ?_;simp[Dc];refine aa.le (Le.aC (o:=[(1009,.box [.aI,.aI,.v (ti 0)]),(1210,.box [.v (.sl (aZ ct)),.v (.sl (aB ins)),.v (ti sw)])]) (l:=[(1,.v (ti fr)),(2,.v (ti od)),(3,.v (.sl (aZ new))),(4,.v (.box [.sl (aZ ct),.sl (aB ins),ti sw])),(8,.ptr 1009 0),(9,.ptr 1210 0)]) (nxt':=1400) ?_ ?_ ?_ ?_) ?_;iterate 4(·simp)
 refine aa.iD aw fw (rs:=fm Sm [none,none,some [],none,some [],some [],none,some [1417],none,some [],none,none,none,some [],some [1417],none,some [1210,1417]]) (.inl rfl) (by kernel_rfl) [8,9] ?_;simp[Sm,fm,b8,bm,names,w1,e1,cG,KQ,KS,hA,hB,h1];have Ka:=su ct;refine⟨Ka,⟨Gt,by omega⟩,⟨hrn,by omega⟩,⟨by omega,by omega,Ka⟩,⟨xq,by omega⟩, ?_⟩;refine aa.ab aw fw [8] ?_;simp[abi];refine aa.ret ?_;simp[A0,E5]
abbrev s38:DM.Spec:=cy (λts=>∃ct ins sw,∃fr od:Int,∃new,ts=[.agg [.sl (aZ ct),.sl (aB ins),ti sw],ti fr,ti od,.sl (aZ new)]/\0<=fr/\fr<=ct.length/\0<=od/\od<=ct.length-fr/\ct.length<=1000000/\new.length<=1000000)
 (fun|[x,.int _ fr,.int _ od,.sl nw]=>.agg [.sl (aZ (cQ (Cp x) fr.toNat od.toNat (eS nw)).aj),.sl (aB (cQ (Cp x) fr.toNat od.toNat (eS nw)).insert),ti (cQ (Cp x) fr.toNat od.toNat (eS nw)).swap]|_=>.bool false) false
theorem ok38:ay Tryz.prog (aW [(38,s38)]):=by
 refine ay.cons ay.nil ?_;rintro ts ⟨ct,ins,sw,fr,od,new,rfl,h1,h2,h3,h4,h5,h6⟩;obtain⟨fr,rfl⟩:=Zad h1;obtain⟨od,rfl⟩:=Zad h3;exact⟨by simpa [Input.enc]using t38 ⟨ct,ins,sw⟩ fr od new (by simpa using h2) (by simp only;omega) h5 h6,λh=>by cases h⟩
def XC(z:Ask):Prop:=0<=z.fr/\z.fr<=z.x.aj.length/\0<=z.od/\z.od<=z.x.aj.length-z.fr/\z.x.aj.length<=1000000/\z.new.length<=1000000
def rG(z:Ask):Input:=cQ z.x z.fr.toNat z.od.toNat z.new
theorem t14(z:Ask)(h:XC z):aT Tryz.prog 14 [z.enc] (rG z).enc:=by
 obtain⟨⟨nt,nn,ns,rules⟩,⟨ct,ins,sw⟩,fr,od,new⟩:=z;obtain⟨h1,h2,h3,h4,h5,h6⟩:=h;simp only at h1 h2 h3 h4 h5 h6;have aw:=ok38;refine c14.ok (by simp) (aJ ?_);simp[Ask.enc];refine aa.ab aw fw [1,2] ?_;simp[Hf];refine aa.le (Le.aC (o:=[(1003,.box [.aI,.aI,.v (ti 0)])]) (l:=[(1,.v (.box [ti nt,ti nn,ti ns,.sl (aS rules),.sl (aZ ct),.sl (aB ins),ti sw,ti fr,ti od,.sl (aZ new)])),(2,.ptr 1003 0)]) (nxt':=1200) ?_ ?_ ?_ ?_) ?_;iterate 4(·simp)
 refine aa.ab aw fw [2] ?_;simp[Hg,and_assoc,h1,h2,h3,h4,h5,h6];refine aa.ret ?_;simp[A1,rG,Input.enc]
theorem t15(z:Ask):aT Tryz.prog 15 [z.enc] (.agg [ti z.fr,ti z.od,ti (z.new.length:Int)]):=by
 obtain⟨⟨nt,nn,ns,rules⟩,⟨ct,ins,sw⟩,fr,od,new⟩:=z;have aw:=ed;refine c15.ok (by simp) (aJ ?_);simp[Ask.enc];refine aa.ab aw fw [1,2] ?_;simp[abj];refine aa.le (Le.aC (o:=[(1003,.box [.v (ti 0),.v (ti 0),.v (ti 0)])]) (l:=[(1,.v (.box [ti nt,ti nn,ti ns,.sl (aS rules),.sl (aZ ct),.sl (aB ins),ti sw,ti fr,ti od,.sl (aZ new)])),(2,.ptr 1003 0)]) (nxt':=1200) ?_ ?_ ?_ ?_) ?_;iterate 4(·simp)
 refine aa.ab aw fw [2] ?_;simp[abk];refine aa.ret ?_;simp[Sn]
end cu
end Go.Proofs
