/- Part of the proof. Conditions: none. -/
import Derived.Test.YtljcdomdjgolkaaGreatDoorXac
import Derived.Test.YtljcdomdjgolkaaGreatDoorXag
import Derived.KernelRfl
import Derived.Test.YtljcdomdjgolkaaGreatDoorXae
set_option linter.unusedSectionVars false
set_option linter.unusedSimpArgs false
set_option linter.unusedVariables false
set_option maxHeartbeats 8000000
set_option maxRecDepth 100000
namespace Go.Proofs
namespace cC
open Go.DM
def acW:List RO:=[
 o (.box (t 0)) 3 [],
 o (.bL (i 0)) 6 []]
def acX:List RO:=[
 n 1 8,
 a 1 3 9 [],
 l 9 10 [1],
 b .mul 8 10 11 [0,2],
 n 1 12,
 n 1 13,
 o (.bin .sub (t 13) (i 1)) 14 [5],
 b .mul 12 14 15 [4,6],
 o (.bin .quo (t 15) (i 2)) 16 [7],
 b .sub 11 16 17 [3,8],
 m 17 7 (k [9] 9)]
def acY:List RO:=[
 n 7 18,
 n 2 19,
 b .add 18 19 20 [0,1],
 n 1 21,
 b .sub 20 21 22 [2,3],
 a 0 3 23 [],
 l 23 24 [5],
 b .mul 22 24 25 [4,6],
 m 25 6 (k [7] 7)]
def d64:DC:=(j (y acW)
 (j (y acX)
 (j (y acY)
 .ret)))
def TK:List bO:=[.slot 6]
theorem c64 [Laid]:aO Tryz.prog 64 26 d64 TK:=⟨Tryz.f64,by kernel_rfl,by kernel_rfl,by kernel_rfl,by kernel_rfl,by kernel_rfl⟩
def H4:List RO:=[
 o (.box (t 0)) 2 [],
 o (.box (t 1)) 3 [],
 o (.alloc [(.v (.int .i64 0)),(.v (.int .i64 0)),(.v (.int .i64 0)),(.v (.int .i64 0))]) 4 []]
def tA:List RO:=[
 a 0 3 7 [],
 l 7 8 [0],
 o (.bin .lss (t 8) (i 0)) 9 [1],
 m 9 10 [2],
 u 0 3 11 10 false [3],
 v 11 12 10 false [4,3],
 u 0 2 13 10 false [3],
 v 13 14 10 false [6,3],
 g (.bin .geq (t 12) (t 14)) 15 10 false [5,7,3],
 p 10 15 16 [3,8],
 m 16 17 [9,3],
 u 1 3 18 17 false [10],
 v 18 19 17 false [11,10],
 g (.bin .lss (t 19) (i 0)) 20 17 false [12,10],
 p 17 20 21 [10,13],
 m 21 22 [14,10],
 u 1 3 23 22 false [15],
 v 23 24 22 false [16,15],
 u 2 3 25 22 false [15],
 v 25 26 22 false [18,15],
 g (.bin .gtr (t 24) (t 26)) 27 22 false [17,19,15],
 p 22 27 28 [15,20],
 m 28 29 [21,15],
 u 2 3 30 29 false [22],
 v 30 31 29 false [23,22],
 u 1 2 32 29 false [22],
 v 32 33 29 false [25,22],
 g (.bin .geq (t 31) (t 33)) 34 29 false [24,26,22],
 p 29 34 35 [22,27]]
def H5:List RO:=[
 o (.load 4 true (.cm (.gE [(.int .i64 1099511627776),(.int .i64 0),(.int .i64 (-1)),(.int .i64 0)] 0))) 36 [],
 S 4 4 36 [0,0]]
def H6:List RO:=[
 a 2 2 37 [],
 l 37 38 [0],
 o (.len (t 38)) 39 [1],
 m 39 5 [2,0,1,2]]
def yQ:List RO:=[
 a 2 3 40 [],
 l 40 41 [0],
 n 5 42,
 b .gtr 41 42 43 [1,2],
 m 43 44 [3],
 u 1 3 45 44 false [4],
 v 45 46 44 false [5,4],
 g (.bin .gtr (t 46) (i 0)) 47 44 false [6,4],
 w 47 48 44 false [7,4,4],
 u 1 2 49 48 true [8],
 v 49 50 48 true [9,8],
 w 5 51 48 true [8],
 g (.bin .gtr (t 50) (t 51)) 52 48 true [10,11,8],
 g (.pick (t 48) (t 52) (.cm (.v (.bool false)))) 53 44 false [8,12,4],
 p 44 53 54 [4,13],
 m 54 55 [14,8],
 u 2 3 56 55 false [15],
 v 56 57 55 false [16,15],
 g (.bin .gtr (t 57) (i 0)) 58 55 false [17,15],
 w 58 59 55 false [18,15,15],
 u 0 2 60 59 true [19],
 v 60 61 59 true [20,19],
 w 5 62 59 true [19],
 g (.bin .gtr (t 61) (t 62)) 63 59 true [21,22,19],
 g (.pick (t 59) (t 63) (.cm (.v (.bool false)))) 64 55 false [19,23,15],
 p 55 64 65 [15,24],
 m 65 66 [25,19],
 u 0 3 67 66 false [26],
 v 67 68 66 false [27,26],
 w 5 69 66 false [26],
 g (.bin .geq (t 68) (t 69)) 70 66 false [28,29,26],
 p 66 70 71 [26,30]]
def NA:List RO:=[
 o (.load 4 true (.cm (.gE [(.int .i64 1099511627776),(.int .i64 0),(.int .i64 (-1)),(.int .i64 0)] 0))) 72 [],
 S 4 4 72 [0,0]]
def H7:List RO:=[
 L 3 2 73 [],
 a 1 3 74 [],
 l 74 75 [1],
 a 2 3 76 [],
 l 76 77 [3],
 o (.call 64 [(t 73),(t 75),(t 77)]) 78 [0,2,4],
 a 0 3 79 [],
 l 79 80 [6],
 b .add 78 80 81 [5,7],
 m 81 6 (k [8,5] 8)]
def acZ:List RO:=[
 n 6 82,
 n 5 83,
 b .geq 82 83 84 [0,1]]
def d37r8:List RO:=[
 o (.load 4 true (.cm (.gE [(.int .i64 1099511627776),(.int .i64 0),(.int .i64 (-1)),(.int .i64 0)] 0))) 85 [],
 S 4 4 85 [0,0]]
def ac0:List RO:=[
 a 2 2 86 [],
 l 86 87 [0],
 n 6 88,
 x 4 87 88 89 [1,2],
 L 4 89 90 [3],
 S 4 4 90 (k [4] 4)]
def d37:DC:=(j (y H4)
 (j (j (y tA)
 (.cond (.tmp 35) (j (y H5)
 .ret)
 .skip))
 (j (y H6)
 (j (j (y yQ)
 (.cond (.tmp 71) (j (y NA)
 .ret)
 .skip))
 (j (Y H7)
 (j (j (y acZ)
 (.cond (.tmp 84) (j (y d37r8)
 .ret)
 .skip))
 (j (y ac0)
 .ret)))))))
def xA:List bO:=[.cell 4 4 true]
theorem c37:aO Tryz.prog 37 91 d37 xA:=⟨Tryz.f37,by kernel_rfl,by kernel_rfl,by kernel_rfl,by kernel_rfl,by kernel_rfl⟩
def ac1:List RO:=[
 o (.box (t 0)) 2 [],
 o (.box (t 1)) 3 [],
 o (.bL (.cm (.v (.bool false)))) 4 []]
def H8:List RO:=[
 a 0 2 5 [],
 l 5 6 [0],
 a 0 3 7 [],
 l 7 8 [2],
 b .lss 6 8 9 [1,3],
 m 9 10 [4],
 u 0 2 11 10 false [5],
 v 11 12 10 false [6,5],
 u 0 3 13 10 false [5],
 v 13 14 10 false [8,5],
 g (.bin .eql (t 12) (t 14)) 15 10 false [7,9,5],
 w 15 16 10 false [10,5,5],
 u 1 2 17 16 true [11],
 v 17 18 16 true [12,11],
 u 1 3 19 16 true [11],
 v 19 20 16 true [14,11],
 g (.bin .lss (t 18) (t 20)) 21 16 true [13,15,11],
 g (.pick (t 16) (t 21) (.cm (.v (.bool false)))) 22 10 false [11,16,5],
 p 10 22 23 [5,17],
 m 23 4 (k [18,11] 18)]
def d56:DC:=(j (y ac1)
 (j (y H8)
 .ret))
def TL:List bO:=[.slot 4]
theorem c56 [Laid]:aO Tryz.prog 56 24 d56 TL:=⟨Tryz.f56,by kernel_rfl,by kernel_rfl,by kernel_rfl,by kernel_rfl,by kernel_rfl⟩
def ac2:List RO:=[
 o (.alloc [(.v (.int .i64 0)),(.v (.int .i64 0))]) 4 []]
def ac3:List RO:=[
 n 0 8,
 o (.minmax false (t 8) (i 1099511627776)) 9 [0],
 o (.build [(.v (.int .i64 0)),(.v (.int .i64 0))] [(0,1,(t 9)),(1,1,(i 1))]) 10 [1],
 o (.alloc [(.v (.int .i64 0)),(.v (.int .i64 0))]) 5 [],
 S 2 5 10 [3,2,0,1,2,3]]
def ac4:List RO:=[
 n 1 11,
 o (.len (t 11)) 12 [0],
 o (.bL (i 0)) 13 []]
def ac5:List RO:=[
 b .lss 13 12 14 []]
def ac6:List RO:=[
 x 2 11 13 15 [],
 L 2 15 16 [0],
 o (.alloc [(.v (.int .i64 0)),(.v (.int .i64 0))]) 7 [],
 S 2 7 16 [2,1,0,1,2]]
def ac7:List RO:=[
 a 0 5 17 [],
 l 17 18 [0],
 a 0 7 19 [],
 l 19 20 [2],
 b .add 18 20 21 [1,3],
 o (.minmax false (t 21) (i 1099511627776)) 22 [4],
 a 0 5 23 (k [] 5),
 S 1 23 22 (k [6,5] 5)]
def ac8:List RO:=[
 a 1 5 24 [],
 l 24 25 [0],
 a 1 7 26 [],
 l 26 27 [2],
 b .add 25 27 28 [1,3],
 o (.minmax false (t 28) (i 1099511627776)) 29 [4],
 a 1 5 30 (k [] 5),
 S 1 30 29 (k [6,5] 5)]
def ac9:List RO:=[
 o (.bin .add (t 13) (i 1)) 31 [],
 m 31 13 [0]]
def ada:List RO:=[
 a 0 5 32 [],
 l 32 33 [0],
 o (.bin .eql (t 33) (i 1099511627776)) 34 [1]]
def adb:List RO:=[
 o (.build [(.v (.int .i64 0)),(.v (.int .i64 0))] [(0,1,(i 1099511627776))]) 35 [],
 S 2 4 35 [0,0]]
def TM:List RO:=[
 L 2 5 36 [],
 S 2 4 36 [0,0]]
def d84:DC:=(j (y ac2)
 (j (y ac3)
 (j (j (y ac4)
 (.block 0 (.loop (j (y ac5)
 (j (.cond (.tmp 14) .skip
 (.exit 0))
 (j (.block 1 (j (y ac6)
 (j (y ac7)
 (y ac8))))
 (y ac9)))))))
 (j (j (y ada)
 (.cond (.tmp 34) (j (y adb)
 .ret)
 .skip))
 (j (y TM)
 .ret)))))
def KZ:List bO:=[.cell 4 2 true]
theorem c84 [Laid]:aO Tryz.prog 84 37 d84 KZ:=⟨Tryz.f84,by kernel_rfl,by kernel_rfl,by kernel_rfl,by kernel_rfl,by kernel_rfl⟩
def ade:List RO:=[
 o (.box (t 0)) 2 [],
 o (.bL (.cm (.v (.bool false)))) 4 []]
def Bn:List RO:=[
 a 0 2 5 [],
 l 5 6 [0],
 o (.bin .eql (t 6) (i 3)) 7 [1],
 m 7 8 [2],
 u 2 2 9 8 true [3],
 v 9 10 8 true [4,3],
 w 1 11 8 true [3],
 g (.bin .eql (t 10) (t 11)) 12 8 true [5,6,3],
 q 8 12 13 [3,7],
 m 13 14 [8,3],
 u 0 2 15 14 false [9],
 v 15 16 14 false [10,9],
 g (.bin .eql (t 16) (i 4)) 17 14 false [11,9],
 w 17 18 14 false [12,9,9],
 u 2 2 19 18 true [13],
 v 19 20 18 true [14,13],
 w 1 21 18 true [13],
 g (.bin .eql (t 20) (t 21)) 22 18 true [15,16,13],
 w 22 23 18 true [17,13,13],
 u 3 2 24 23 false [18],
 v 24 25 23 false [19,18],
 w 1 26 23 false [18],
 g (.bin .eql (t 25) (t 26)) 27 23 false [20,21,18],
 g (.pick (t 23) (.cm (.v (.bool true))) (t 27)) 28 18 true [18,22,13],
 g (.pick (t 18) (t 28) (.cm (.v (.bool false)))) 29 14 false [13,23,9],
 p 14 29 30 [9,24],
 m 30 4 (k [25,18] 25)]
def d86:DC:=(j (y ade)
 (j (y Bn)
 .ret))
def TN:List bO:=[.slot 4]
theorem c86 [Laid]:aO Tryz.prog 86 31 d86 TN:=⟨Tryz.f86,by kernel_rfl,by kernel_rfl,by kernel_rfl,by kernel_rfl,by kernel_rfl⟩
def adf:List RO:=[
 o (.alloc [(.v (.int .i64 0)),(.v (.int .i64 0))]) 8 []]
def NB:List RO:=[
 n 2 9,
 n 0 10,
 c 10 11 [1],
 a 10 11 12 [2],
 l 12 13 [3],
 b .eql 9 13 14 [0,4],
 m 14 15 [5],
 w 3 16 15 true [6],
 w 0 17 15 true [6],
 g (.nilCheck (t 17)) 18 15 true [8,6],
 u 11 18 19 15 true [9,6],
 v 19 20 15 true [10,6],
 g (.bin .eql (t 16) (t 20)) 21 15 true [7,11,6],
 q 15 21 22 [6,12]]
def adg:List RO:=[
 n 0 23,
 c 23 24 [0],
 a 12 24 25 [1],
 l 25 26 [2],
 n 1 27,
 x 2 26 27 28 [3,4],
 L 2 28 29 [5],
 S 2 8 29 (k [6] 6)]
def adh:List RO:=[
 n 0 30,
 c 30 31 [0],
 a 7 31 32 [1],
 L 3 32 33 [2],
 n 1 34,
 n 2 35,
 n 3 36,
 o (.build [(.v (.int .i64 0)),(.v (.int .i64 0)),(.v (.int .i64 0))] [(0,1,(t 34)),(1,1,(t 35)),(2,1,(t 36))]) 37 [4,5,6],
 o (.call 37 [(t 33),(t 37)]) 38 [3,7],
 o (.field 0 2 true (t 38)) 39 [8],
 S 2 8 39 (k [9,8] 9)]
def d83:DC:=(j (y adf)
 (j (j (y NB)
 (.cond (.tmp 22) (j (y adg)
 .ret)
 .skip))
 (j (y adh)
 .ret)))
def K0:List bO:=[.cell 8 2 true]
theorem c83 [Laid]:aO Tryz.prog 83 40 d83 K0:=⟨Tryz.f83,by kernel_rfl,by kernel_rfl,by kernel_rfl,by kernel_rfl,by kernel_rfl⟩
def TO:List RO:=[
 o (.bL (.cm (.v (.bool false)))) 4 []]
def TP:List RO:=[
 n 1 7,
 o (.len (t 7)) 8 [0],
 o (.bL (i 0)) 9 []]
def TQ:List RO:=[
 b .lss 9 8 10 []]
def adi:List RO:=[
 x 3 7 9 11 [],
 L 3 11 12 [0],
 o (.alloc [(.v (.int .i64 0)),(.v (.int .i64 0)),(.v (.int .i64 0))]) 6 [],
 S 3 6 12 [2,1,0,1,2]]
def NC:List RO:=[
 a 1 6 13 [],
 l 13 14 [0],
 n 0 15,
 c 15 16 [2],
 a 10 16 17 [3],
 l 17 18 [4],
 b .eql 14 18 19 [1,5],
 m 19 20 [6],
 u 2 6 21 20 true [7],
 v 21 22 20 true [8,7],
 w 0 23 20 true [7],
 g (.nilCheck (t 23)) 24 20 true [10,7],
 u 11 24 25 20 true [11,7],
 v 25 26 20 true [12,7],
 g (.bin .eql (t 22) (t 26)) 27 20 true [9,13,7],
 q 20 27 28 [7,14]]
def adj:List RO:=[
 o (.bL (.cm (.v (.bool true)))) 4 []]
def adk:List RO:=[
 o (.bin .add (t 9) (i 1)) 29 [],
 m 29 9 [0]]
def TR:List RO:=[
 o (.bL (.cm (.v (.bool false)))) 4 []]
def d59:DC:=(j (y TO)
 (j (j (y TP)
 (.block 0 (.loop (j (y TQ)
 (j (.cond (.tmp 10) .skip
 (.exit 0))
 (j (.block 1 (j (y adi)
 (j (Y NC)
 (.cond (.tmp 28) (j (y adj)
 .ret)
 .skip))))
 (y adk)))))))
 (j (y TR)
 .ret)))
def Fi:List bO:=[.slot 4]
theorem c59 [Laid]:aO Tryz.prog 59 30 d59 Fi:=⟨Tryz.f59,by kernel_rfl,by kernel_rfl,by kernel_rfl,by kernel_rfl,by kernel_rfl⟩
def TS:List RO:=[
 o (.alloc [(.v (.int .i64 0)),(.v (.int .i64 0))]) 6 []]
def TT:List RO:=[
 o (.bL (.cm .aJ)) 7 []]
def TU:List RO:=[
 n 2 10,
 o (.len (t 10)) 11 [0],
 o (.bL (i 0)) 12 []]
def TV:List RO:=[
 b .lss 12 11 13 []]
def adl:List RO:=[
 x 3 10 12 14 [],
 L 3 14 15 [0],
 o (.alloc [(.v (.int .i64 0)),(.v (.int .i64 0)),(.v (.int .i64 0))]) 9 [],
 S 3 9 15 [2,1,0,1,2]]
def K1:List RO:=[
 n 7 16,
 n 0 17,
 a 0 9 18 [],
 l 18 19 [2],
 a 1 9 20 [],
 l 20 21 [4],
 a 2 9 22 [],
 l 22 23 [6],
 o (.callS 83 [(t 17),(t 19),(t 21),(t 23)]) 24 [1,3,5,7],
 o (.bslice 1 2 [(.v (.int .i64 0)),(.v (.int .i64 0))] [(0,2,(t 24))]) 25 [8],
 o (.append 55 2 16 (t 16) (t 25)) 26 [0,9,8],
 m 26 7 (k [10,10] 10)]
def d61r5:List RO:=K1.map bare
def adm:List RO:=[
 o (.bin .add (t 12) (i 1)) 27 [],
 m 27 12 [0]]
def TW:List RO:=[
 n 1 28,
 n 7 29,
 o (.call 84 [(t 28),(t 29)]) 30 [0,1],
 S 2 6 30 [2,2,0,1,2]]
def d61:DC:=(j (y TS)
 (j (y TT)
 (j (j (y TU)
 (.block 0 (.loop (j (y TV)
 (j (.cond (.tmp 13) .skip
 (.exit 0))
 (j (.block 1 (j (y adl)
 (y d61r5)))
 (y adm)))))))
 (j (y TW)
 .ret))))
def K2:List bO:=[.cell 6 2 true]
theorem c61 [Laid]:aO Tryz.prog 61 31 d61 K2:=⟨Tryz.f61,by kernel_rfl,by kernel_rfl,by kernel_rfl,by kernel_rfl,by kernel_rfl⟩
def adn:List RO:=[
 o (.bL (.cm (.v (.bool false)))) 4 []]
def ado:List RO:=[
 n 1 7,
 o (.len (t 7)) 8 [0],
 o (.bL (i 0)) 9 []]
def adp:List RO:=[
 b .lss 9 8 10 []]
def adq:List RO:=[
 x 3 7 9 11 [],
 L 3 11 12 [0],
 o (.alloc [(.v (.int .i64 0)),(.v (.int .i64 0)),(.v (.int .i64 0))]) 6 [],
 S 3 6 12 [2,1,0,1,2]]
def ND:List RO:=[
 a 1 6 13 [],
 l 13 14 [0],
 n 0 15,
 c 15 16 [2],
 a 10 16 17 [3],
 l 17 18 [4],
 b .eql 14 18 19 [1,5],
 m 19 20 [6],
 u 2 6 21 20 true [7],
 v 21 22 20 true [8,7],
 w 0 23 20 true [7],
 g (.nilCheck (t 23)) 24 20 true [10,7],
 u 11 24 25 20 true [11,7],
 v 25 26 20 true [12,7],
 g (.bin .eql (t 22) (t 26)) 27 20 true [9,13,7],
 q 20 27 28 [7,14],
 m 28 29 [15,7],
 w 0 30 29 true [16],
 g (.nilCheck (t 30)) 31 29 true [17,16],
 u 13 31 32 29 true [18,16],
 v 32 33 29 true [19,16],
 u 0 6 34 29 true [16],
 v 34 35 29 true [21,16],
 g (.idxAddr 1 (t 33) (t 35)) 36 29 true [20,22,16],
 v 36 37 29 true [23,16],
 g (.un .not (t 37)) 38 29 true [24,16],
 q 29 38 39 [16,25]]
def adr:List RO:=[
 o (.bL (.cm (.v (.bool false)))) 4 []]
def ads:List RO:=[
 o (.bin .add (t 9) (i 1)) 40 [],
 m 40 9 [0]]
def adt:List RO:=[
 o (.bL (.cm (.v (.bool true)))) 4 []]
def d89:DC:=(j (y adn)
 (j (j (y ado)
 (.block 0 (.loop (j (y adp)
 (j (.cond (.tmp 10) .skip
 (.exit 0))
 (j (.block 1 (j (y adq)
 (j (Y ND)
 (.cond (.tmp 39) (j (y adr)
 .ret)
 .skip))))
 (y ads)))))))
 (j (y adt)
 .ret)))
def K3:List bO:=[.slot 4]
theorem c89 [Laid]:aO Tryz.prog 89 41 d89 K3:=⟨Tryz.f89,by kernel_rfl,by kernel_rfl,by kernel_rfl,by kernel_rfl,by kernel_rfl⟩
def H9:List RO:=[
 o (.bL (.cm (.v (.raw (Go.Value.pointer Option.none))))) 2 []]
def Ia:List RO:=[
 n 0 3,
 o (.mkMap [(.int .i64)] false) 4 [],
 o (.build [(.v (.raw (Go.Value.nilFunc))),.aJ,(.v (.raw (Go.Value.map Option.none))),(.v (.int .i64 0)),(.v (.int .i64 0))] [(0,1,(t 3)),(2,1,(t 4))]) 5 [0,1],
 o (.box (t 5)) 6 [2],
 m 6 2 [3,0,1,2,3]]
def d54:DC:=(j (y H9)
 (j (y Ia)
 .ret))
def xB:List bO:=[.slot 2]
theorem c54 [Laid]:aO Tryz.prog 54 7 d54 xB:=⟨Tryz.f54,by kernel_rfl,by kernel_rfl,by kernel_rfl,by kernel_rfl,by kernel_rfl⟩
def TX:List RO:=[
 o (.bL (.cm (.v (.bool false)))) 6 []]
def K4:List RO:=[
 n 0 9,
 c 9 10 [0],
 a 1 10 11 [1],
 l 11 12 [2],
 n 1 13,
 x 3 12 13 14 [3,4],
 L 3 14 15 [5],
 n 0 16,
 c 16 17 [7],
 a 1 17 18 [8],
 l 18 19 [9],
 n 2 20,
 x 3 19 20 21 [10,11],
 L 3 21 22 [12],
 o (.alloc [(.v (.int .i64 0)),(.v (.int .i64 0)),(.v (.int .i64 0))]) 7 [],
 o (.alloc [(.v (.int .i64 0)),(.v (.int .i64 0)),(.v (.int .i64 0))]) 8 [],
 S 3 7 15 [14,6,0,1,2,3,4,5,6,14,15],
 S 3 8 22 (k [15,13,16] 16)]
def TY:List RO:=[
 n 0 23,
 c 23 24 [0],
 a 0 24 25 [1],
 l 25 26 [2],
 a 0 7 27 [],
 l 27 28 [4],
 a 0 8 29 [],
 l 29 30 [6],
 o (.callv (t 26) [(t 28),(t 30)]) 31 [3,5,7]]
def TZ:List RO:=[
 o (.bL (.cm (.v (.bool true)))) 6 []]
def K5:List RO:=[
 n 0 32,
 c 32 33 [0],
 a 0 33 34 [1],
 l 34 35 [2],
 a 0 8 36 [],
 l 36 37 [4],
 a 0 7 38 [],
 l 38 39 [6],
 o (.callv (t 35) [(t 37),(t 39)]) 40 [3,5,7],
 o (.un .not (t 40)) 41 [8],
 m 41 42 [9,8],
 u 2 7 43 42 true [10],
 v 43 44 42 true [11,10],
 u 2 8 45 42 true [10],
 v 45 46 42 true [13,10],
 g (.bin .lss (t 44) (t 46)) 47 42 true [12,14,10],
 q 42 47 48 [10,15],
 m 48 6 (k [16,10] 16)]
def d117:DC:=(j (y TX)
 (j (.jY K4)
 (j (j (Y TY)
 (.cond (.tmp 31) (j (y TZ)
 .ret)
 .skip))
 (j (Y K5)
 .ret))))
def Fj:List bO:=[.slot 6]
theorem c117 [Laid]:aO Tryz.prog 117 49 d117 Fj:=⟨Tryz.f117,by kernel_rfl,by kernel_rfl,by kernel_rfl,by kernel_rfl,by kernel_rfl⟩
def T0:List RO:=[
 n 0 6,
 c 6 7 [0],
 a 1 7 8 [1],
 l 8 9 [2],
 n 1 10,
 n 0 11,
 c 11 12 [5],
 a 1 12 13 [6],
 l 13 14 [7],
 n 2 15,
 n 0 16,
 c 16 17 [10],
 a 1 17 18 [11],
 l 18 19 [12],
 n 2 20,
 x 3 19 20 21 [13,14],
 L 3 21 22 [15],
 n 0 23,
 c 23 24 [17],
 a 1 24 25 [18],
 l 25 26 [19],
 n 1 27,
 x 3 26 27 28 [20,21],
 L 3 28 29 [22],
 x 3 9 10 30 [3,4,0,1,2,3,4,8,10,11,12,13,14,15,16,20,23],
 S 3 30 22 [24,16,0,1,2,3,4,8,10,11,12,13,14,15,16,20,23],
 x 3 14 15 31 (k [8,9] 25),
 S 3 31 29 (k [26,23,25] 25)]
def T1:List RO:=[
 n 0 32,
 c 32 33 [0],
 a 2 33 34 [1],
 l 34 35 [2],
 n 0 36,
 c 36 37 [4],
 a 1 37 38 [5],
 l 38 39 [6],
 n 1 40,
 x 3 39 40 41 [7,8],
 a 1 41 42 [9],
 l 42 43 [10],
 n 0 44,
 c 44 45 [12],
 a 2 45 46 [13],
 l 46 47 [14],
 n 0 48,
 c 48 49 [16],
 a 1 49 50 [17],
 l 50 51 [18],
 n 2 52,
 x 3 51 52 53 [19,20],
 a 1 53 54 [21],
 l 54 55 [22],
 n 1 56,
 n 2 57,
 o (.mapEnt [(.int .i64)] false (.v (.int .i64 0)) (t 35) (t 43)) 58 [3,11,15,19,23],
 e 1 58 59 [26],
 s (.entSt (t 35) (t 59) (t 56)) [3,27,24,26,0,1,2,3,4,5,6,7,8,9,10,11,15,19,23,24,26],
 o (.mapEnt [(.int .i64)] false (.v (.int .i64 0)) (t 47) (t 55)) 60 [15,23,28,0,1,2,3,4,5,6,7,8,9,10,11,15,19,23,24,26,27,28],
 e 1 60 61 [29],
 s (.entSt (t 47) (t 61) (t 57)) (k [15,30,25,29] 29)]
def d111:DC:=(j (Y T0)
 (Y T1))
def NF:List bO:=[]
theorem c111 [Laid]:aO Tryz.prog 111 62 d111 NF:=⟨Tryz.f111,by kernel_rfl,by kernel_rfl,by kernel_rfl,by kernel_rfl,by kernel_rfl⟩
def vK:List RO:=[
 n 1 4,
 o (.bin .gtr (t 4) (i 0)) 5 [0],
 m 5 6 [1],
 w 0 7 6 true [2],
 w 1 8 6 true [2],
 w 1 9 6 true [2],
 g (.bin .sub (t 9) (i 1)) 10 6 true [5,2],
 g (.bin .quo (t 10) (i 2)) 11 6 true [6,2],
 g (.callS 117 [(t 7),(t 8),(t 11)]) 12 6 true [3,4,7,2,2],
 q 6 12 13 [2,8]]
def d109r0:List RO:=vK.map bare
def Fk:List RO:=[
 n 0 14,
 n 1 15,
 n 1 16,
 o (.bin .sub (t 16) (i 1)) 17 [2],
 o (.bin .quo (t 17) (i 2)) 18 [3],
 o (.callS 111 [(t 14),(t 15),(t 18)]) 19 [0,1,4]]
def d109r1:List RO:=Fk.map bare
def T2:List RO:=[
 n 1 20,
 o (.bin .sub (t 20) (i 1)) 21 [0],
 o (.bin .quo (t 21) (i 2)) 22 [1],
 m 22 1 [2,0,1,2]]
def d109:DC:=(.block 0 (.loop (j (j (y d109r0)
 (.cond (.tmp 13) .skip
 (.exit 0)))
 (.block 1 (j (y d109r1)
 (y T2))))))
def Fl:List bO:=[]
theorem c109 [Laid]:aO Tryz.prog 109 23 d109 Fl:=⟨Tryz.f109,by kernel_rfl,by kernel_rfl,by kernel_rfl,by kernel_rfl,by kernel_rfl⟩
def T3:List RO:=[
 n 1 6,
 m 6 4 [0,0]]
def T4:List RO:=[
 n 1 7,
 o (.bin .mul (i 2) (t 7)) 8 [0],
 o (.bin .add (t 8) (i 1)) 9 [1],
 m 9 5 [2,0,1,2]]
def Fm:List RO:=[
 n 5 10,
 n 1 11,
 o (.bin .mul (i 2) (t 11)) 12 [1],
 o (.bin .add (t 12) (i 2)) 13 [2],
 b .leq 10 13 14 [0,3],
 m 14 15 [4],
 w 5 16 15 true [5],
 w 0 17 15 true [5],
 g (.nilCheck (t 17)) 18 15 true [7,5],
 u 1 18 19 15 true [8,5],
 v 19 20 15 true [9,5],
 g (.len (t 20)) 21 15 true [10,5],
 g (.bin .lss (t 16) (t 21)) 22 15 true [6,11,5],
 q 15 22 23 [5,12]]
def Fo:List RO:=[
 n 0 26,
 n 5 27,
 n 4 28,
 o (.callS 117 [(t 26),(t 27),(t 28)]) 29 [0,1,2]]
def d110r3:List RO:=Fo.map bare
def T5:List RO:=[
 n 5 30,
 m 30 4 [0,0]]
def T6:List RO:=[
 n 5 24,
 o (.bin .add (t 24) (i 1)) 25 [0],
 m 25 5 [1,0,1]]
def T7:List RO:=[
 n 4 31,
 n 1 32,
 b .eql 31 32 33 [0,1]]
def Fp:List RO:=[
 n 0 34,
 n 1 35,
 n 4 36,
 o (.callS 111 [(t 34),(t 35),(t 36)]) 37 [0,1,2]]
def d110r7:List RO:=Fp.map bare
def T8:List RO:=[
 n 4 38,
 m 38 1 [0,0]]
def d110:DC:=(.block 0 (.loop (.block 1 (j (y T3)
 (j (j (y T4)
 (.block 2 (.loop (j (j (y Fm)
 (.cond (.tmp 23) .skip
 (.exit 2)))
 (j (.block 3 (j (y d110r3)
 (.cond (.tmp 29) (y T5)
 .skip)))
 (y T6))))))
 (j (j (y T7)
 (.cond (.tmp 33) .ret
 .skip))
 (j (y d110r7)
 (y T8))))))))
def NG:List bO:=[]
theorem c110 [Laid]:aO Tryz.prog 110 39 d110 NG:=⟨Tryz.f110,by kernel_rfl,by kernel_rfl,by kernel_rfl,by kernel_rfl,by kernel_rfl⟩
def adu:List RO:=[
 o (.bL (i 0)) 4 []]
def adw:List RO:=[
 n 0 7,
 c 7 8 [0],
 a 3 8 9 [1],
 l 9 10 [2],
 n 0 11,
 c 11 12 [4],
 a 1 12 13 [5],
 l 13 14 [6],
 o (.len (t 14)) 15 [7],
 m 10 5 [3,0,1,2,3],
 m 15 6 (k [8,9] 9)]
def adx:List RO:=[
 n 0 16,
 n 0 17,
 c 17 18 [1],
 a 1 18 19 [2],
 l 19 20 [3],
 n 1 21,
 n 5 22,
 n 0 23,
 c 23 24 [7],
 a 4 24 25 [8],
 l 25 26 [9],
 o (.build [(.v (.int .i64 0)),(.v (.int .i64 0)),(.v (.int .i64 0))] [(0,1,(t 21)),(1,1,(t 22)),(2,1,(t 26))]) 27 [5,6,10],
 o (.bslice 1 3 [(.v (.int .i64 0)),(.v (.int .i64 0)),(.v (.int .i64 0))] [(0,3,(t 27))]) 28 [11],
 o (.append 177 3 24 (t 20) (t 28)) 29 [4,12],
 c 16 30 (k [0] 13),
 a 1 30 31 (k [14] 13),
 S 1 31 29 (k [15,13,13] 13)]
def ady:List RO:=[
 n 0 32,
 c 32 33 [0],
 a 2 33 34 [1],
 l 34 35 [2],
 n 5 36,
 n 6 37,
 s (.mapUpd [(.int .i64)] false (t 35) (t 36) (t 37)) (k [3,4,5] 5)]
def adz:List RO:=[
 n 0 38,
 n 0 39,
 n 0 40,
 c 40 41 [2],
 a 3 41 42 [3],
 l 42 43 [4],
 o (.bin .add (t 43) (i 1)) 44 [5],
 n 0 45,
 c 45 46 [7],
 a 4 46 47 [8],
 l 47 48 [9],
 o (.bin .add (t 48) (i 1)) 49 [10],
 c 38 50 [0,0,2,3,4,5,6,10],
 a 3 50 51 [12,0,2,3,4,5,6,10],
 S 1 51 44 [13,6,0,2,3,4,5,6,10],
 c 39 52 (k [1] 14),
 a 4 52 53 (k [15] 14),
 S 1 53 49 (k [16,11,14] 14)]
def K6:List RO:=[
 n 0 54,
 n 6 55,
 o (.callS 109 [(t 54),(t 55)]) 56 [0,1]]
def d82r5:List RO:=K6.map bare
def adA:List RO:=[
 n 5 57,
 m 57 4 [0,0]]
def d82:DC:=(j (y adu)
 (j (Y adw)
 (j (Y adx)
 (j (y ady)
 (j (Y adz)
 (j (y d82r5)
 (j (y adA)
 .ret)))))))
def T9:List bO:=[.slot 4]
theorem c82 [Laid]:aO Tryz.prog 82 58 d82 T9:=⟨Tryz.f82,by kernel_rfl,by kernel_rfl,by kernel_rfl,by kernel_rfl,by kernel_rfl⟩
def adB:List RO:=[
 o (.bL (i 0)) 2 [],
 o (.bL (.cm (.v (.bool false)))) 3 [0]]
def adC:List RO:=[
 n 0 6,
 c 6 7 [0],
 a 1 7 8 [1],
 l 8 9 [2],
 o (.len (t 9)) 10 [3],
 o (.bin .eql (t 10) (i 0)) 11 [4]]
def adD:List RO:=[
 o (.alloc [(.v (.int .i64 0))]) 12 [],
 c 12 13 [0],
 l 13 14 [1],
 m 14 2 [2,0,1,2],
 o (.bL (.cm (.v (.bool false)))) 3 [3,0,1,2,3]]
def Ua:List RO:=[
 n 0 15,
 c 15 16 [0],
 a 1 16 17 [1],
 l 17 18 [2],
 o (.idxAddr 3 (t 18) (i 0)) 19 [3],
 L 3 19 20 [4],
 n 0 21,
 c 21 22 [6],
 a 1 22 23 [7],
 l 23 24 [8],
 o (.len (t 24)) 25 [9],
 o (.bin .sub (t 25) (i 1)) 26 [10],
 o (.alloc [(.v (.int .i64 0)),(.v (.int .i64 0)),(.v (.int .i64 0))]) 4 [],
 S 3 4 20 [12,5,0,1,2,3,4,5,12],
 m 26 5 (k [11,13] 13)]
def K7:List RO:=[
 n 0 27,
 n 5 28,
 o (.callS 111 [(t 27),(i 0),(t 28)]) 29 [0,1]]
def d85r4:List RO:=K7.map bare
def adE:List RO:=[
 n 0 30,
 n 0 31,
 c 31 32 [1],
 a 1 32 33 [2],
 l 33 34 [3],
 n 5 35,
 o (.slice 3 (t 34) none (some (t 35))) 36 [4,5],
 c 30 37 (k [0] 6),
 a 1 37 38 (k [7] 6),
 S 1 38 36 (k [8,6] 6)]
def adF:List RO:=[
 n 0 39,
 c 39 40 [0],
 a 2 40 41 [1],
 l 41 42 [2],
 a 1 4 43 [],
 l 43 44 [4],
 s (.mapDel [(.int .i64)] false (t 42) (t 44)) [3,5]]
def K8:List RO:=[
 n 0 45,
 o (.callS 110 [(t 45),(i 0)]) 46 [0]]
def d85r7:List RO:=K8.map bare
def adG:List RO:=[
 a 0 4 47 [],
 l 47 48 [0],
 m 48 2 [1,0,1],
 o (.bL (.cm (.v (.bool true)))) 3 [2,0,1,2]]
def d85:DC:=(j (y adB)
 (j (j (y adC)
 (.cond (.tmp 11) (j (y adD)
 .ret)
 .skip))
 (j (.jY Ua)
 (j (y d85r4)
 (j (y adE)
 (j (Y adF)
 (j (y d85r7)
 (j (y adG)
 .ret))))))))
def K9:List bO:=[.slot 2,.slot 3]
theorem c85 [Laid]:aO Tryz.prog 85 49 d85 K9:=⟨Tryz.f85,by kernel_rfl,by kernel_rfl,by kernel_rfl,by kernel_rfl,by kernel_rfl⟩
def adH:List RO:=[
 o (.bL (.cm (.v (.bool false)))) 6 []]
def adI:List RO:=[
 n 0 10,
 c 10 11 [0],
 a 2 11 12 [1],
 l 12 13 [2],
 n 1 14,
 o (.lookup [(.int .i64)] false (.v (.int .i64 0)) true (t 13) (t 14)) 15 [3,4],
 m 15 9 [5],
 e 0 9 16 [6],
 e 1 9 17 [6],
 m 16 7 (k [7] 7),
 m 17 8 (k [8,9] 9)]
def adJ:List RO:=[
 n 8 18,
 o (.un .not (t 18)) 19 [0]]
def d81r3:List RO:=[
 o (.bL (.cm (.v (.bool false)))) 6 []]
def adK:List RO:=[
 n 0 20,
 c 20 21 [0],
 a 1 21 22 [1],
 l 22 23 [2],
 n 7 24,
 n 0 25,
 c 25 26 [5],
 a 1 26 27 [6],
 l 27 28 [7],
 n 7 29,
 n 2 30,
 n 0 31,
 c 31 32 [11],
 a 4 32 33 [12],
 l 33 34 [13],
 x 3 23 24 35 [3,4,0,1,2,3,4,8,10,14],
 a 0 35 36 [15,0,1,2,3,4,8,10,14],
 S 1 36 30 [16,10,0,1,2,3,4,8,10,14],
 x 3 28 29 37 (k [8,9] 17),
 a 2 37 38 (k [18] 17),
 S 1 38 34 (k [19,14,17] 17)]
def adL:List RO:=[
 n 0 39,
 c 39 40 [0],
 a 4 40 41 [1],
 l 41 42 [2],
 o (.bin .add (t 42) (i 1)) 43 [3],
 c 39 44 (k [0] 4),
 a 4 44 45 (k [5] 4),
 S 1 45 43 (k [6,4] 4)]
def La:List RO:=[
 n 0 46,
 n 7 47,
 o (.callS 109 [(t 46),(t 47)]) 48 [0,1]]
def d81r6:List RO:=La.map bare
def Lb:List RO:=[
 n 0 49,
 n 0 50,
 c 50 51 [1],
 a 2 51 52 [2],
 l 52 53 [3],
 n 1 54,
 o (.lookup [(.int .i64)] false (.v (.int .i64 0)) false (t 53) (t 54)) 55 [4,5],
 o (.callS 110 [(t 49),(t 55)]) 56 [0,6]]
def d81r7:List RO:=Lb.map bare
def adM:List RO:=[
 o (.bL (.cm (.v (.bool true)))) 6 []]
def d81:DC:=(j (y adH)
 (j (y adI)
 (j (j (y adJ)
 (.cond (.tmp 19) (j (y d81r3)
 .ret)
 .skip))
 (j (Y adK)
 (j (y adL)
 (j (y d81r6)
 (j (y d81r7)
 (j (y adM)
 .ret))))))))
def Ub:List bO:=[.slot 6]
theorem c81 [Laid]:aO Tryz.prog 81 57 d81 Ub:=⟨Tryz.f81,by kernel_rfl,by kernel_rfl,by kernel_rfl,by kernel_rfl,by kernel_rfl⟩
def Ib:List RO:=[
 o (.box (t 2)) 5 []]
def yR:List RO:=[
 n 0 6,
 c 6 7 [0],
 a 13 7 8 [1],
 l 8 9 [2],
 n 1 10,
 x 1 9 10 11 [3,4],
 l 11 12 [5],
 m 12 13 [6],
 u 0 5 14 13 false [7],
 v 14 15 13 false [8,7],
 g (.bin .geq (t 15) (i 1099511627776)) 16 13 false [9,7],
 p 13 16 17 [7,10],
 m 17 18 [11,7],
 g (.load 2 true (t 5)) 19 18 false [12],
 w 0 20 18 false [12],
 g (.nilCheck (t 20)) 21 18 false [14,12],
 u 12 21 22 18 false [15,12],
 v 22 23 18 false [16,12],
 w 1 24 18 false [12],
 g (.idxAddr 2 (t 23) (t 24)) 25 18 false [17,18,12],
 g (.load 2 true (t 25)) 26 18 false [19,12],
 g (.call 56 [(t 19),(t 26)]) 27 18 false [13,20,12,12],
 g (.un .not (t 27)) 28 18 false [21,12],
 p 18 28 29 [12,22]]
def Ic:List RO:=[
 n 0 30,
 c 30 31 [0],
 a 12 31 32 [1],
 l 32 33 [2],
 n 1 34,
 L 2 5 35 [],
 x 2 33 34 36 (k [3,4] 5),
 S 2 36 35 (k [6,5] 5)]
def Ie:List RO:=[
 n 0 37,
 c 37 38 [0],
 a 14 38 39 [1],
 l 39 40 [2],
 n 1 41,
 x 1 40 41 42 [3,4],
 l 42 43 [5],
 o (.bin .geq (t 43) (i 0)) 44 [6]]
def NH:List RO:=[
 n 0 45,
 c 45 46 [0],
 a 15 46 47 [1],
 l 47 48 [2],
 n 0 49,
 c 49 50 [4],
 a 14 50 51 [5],
 l 51 52 [6],
 n 1 53,
 x 1 52 53 54 [7,8],
 l 54 55 [9],
 n 1 56,
 o (.call 81 [(t 48),(t 55),(t 56)]) 57 [3,10,11]]
def Uc:List RO:=[
 n 0 45,
 c 45 46 [0],
 a 15 46 47 [1],
 l 47 48 [2],
 n 0 49,
 c 49 50 [4],
 a 14 50 51 [5],
 l 51 52 [6],
 n 1 53,
 x 1 52 53 54 [7,8],
 l 54 55 [9],
 n 1 56,
 o (.callS 81 [(t 48),(t 55),(t 56)]) 57 [3,10,11]]
def NI:List RO:=[
 n 0 58,
 c 58 59 [0],
 a 14 59 60 [1],
 l 60 61 [2],
 n 1 62,
 n 0 63,
 c 63 64 [5],
 a 15 64 65 [6],
 l 65 66 [7],
 n 1 67,
 o (.call 82 [(t 66),(t 67)]) 68 [8,9],
 x 1 61 62 69 (k [3,4] 10),
 S 1 69 68 (k [11,10,10] 10)]
def Ud:List RO:=[
 n 0 58,
 c 58 59 [0],
 a 14 59 60 [1],
 l 60 61 [2],
 n 1 62,
 n 0 63,
 c 63 64 [5],
 a 15 64 65 [6],
 l 65 66 [7],
 n 1 67,
 o (.callS 82 [(t 66),(t 67)]) 68 [8,9],
 x 1 61 62 69 (k [3,4] 10),
 S 1 69 68 (k [11,10,10] 10)]
def d60:DC:=(j (y Ib)
 (j (j (Y yR)
 (.cond (.tmp 29) .ret
 .skip))
 (j (Y Ic)
 (j (y Ie)
 (.cond (.tmp 44) (Y NH)
 (Y NI))))))
def ui:List bO:=[]
theorem c60 [Laid]:aO Tryz.prog 60 70 d60 ui:=⟨Tryz.f60,by kernel_rfl,by kernel_rfl,by kernel_rfl,by kernel_rfl,by kernel_rfl⟩
def Ue:List RO:=[
 o (.bL (i 0)) 4 []]
def Uf:List RO:=[
 n 0 8,
 o (.bL (i 0)) 5 [],
 m 8 6 [0,1,0,1]]
def Ug:List RO:=[
 n 5 9,
 n 6 10,
 b .lss 9 10 11 [0,1]]
def Uh:List RO:=[
 n 5 12,
 n 6 13,
 b .add 12 13 14 [0,1],
 o (.conv .u64 (t 14)) 15 [2],
 o (.bin .shr (t 15) (.cm (.v (.int .u64 1)))) 16 [3],
 o (.conv .i64 (t 16)) 17 [4],
 m 17 7 (k [5] 5)]
def Ui:List RO:=[
 n 1 18,
 n 7 19,
 o (.callv (t 18) [(t 19)]) 20 [0,1],
 o (.un .not (t 20)) 21 [2]]
def Uj:List RO:=[
 n 7 22,
 o (.bin .add (t 22) (i 1)) 23 [0],
 m 23 5 [1,0,1]]
def Uk:List RO:=[
 n 7 24,
 m 24 6 [0,0]]
def Ul:List RO:=[
 n 5 25,
 m 25 4 [0,0]]
def d107:DC:=(j (y Ue)
 (j (y Uf)
 (j (.block 0 (.loop (j (j (y Ug)
 (.cond (.tmp 11) .skip
 (.exit 0)))
 (.block 1 (j (y Uh)
 (j (y Ui)
 (.cond (.tmp 21) (y Uj)
 (y Uk))))))))
 (j (y Ul)
 .ret))))
def NJ:List bO:=[.slot 4]
theorem c107 [Laid]:aO Tryz.prog 107 26 d107 NJ:=⟨Tryz.f107,by kernel_rfl,by kernel_rfl,by kernel_rfl,by kernel_rfl,by kernel_rfl⟩
def Um:List RO:=[
 o (.bL (.cm (.v (.bool false)))) 3 []]
def Un:List RO:=[
 l 1 5 [],
 c 5 6 [0],
 a 4 6 7 [1],
 a 1 7 8 [2],
 l 8 9 [3],
 n 0 10,
 x 5 9 10 11 [4,5],
 L 5 11 12 [6],
 o (.alloc [(.v (.int .i64 0)),(.v (.int .i64 0)),(.v (.int .i64 0)),(.v (.int .i64 0)),.aJ]) 4 [],
 S 5 4 12 (k [8,7] 8)]
def Bo:List RO:=[
 a 0 4 13 [],
 l 13 14 [0],
 l 1 15 [],
 c 15 16 [2],
 a 10 16 17 [3],
 l 17 18 [4],
 b .gtr 14 18 19 [1,5],
 m 19 20 [6],
 u 0 4 21 20 false [7],
 v 21 22 20 false [8,7],
 v 1 23 20 false [7],
 g (.nilCheck (t 23)) 24 20 false [10,7],
 u 10 24 25 20 false [11,7],
 v 25 26 20 false [12,7],
 g (.bin .eql (t 22) (t 26)) 27 20 false [9,13,7],
 w 27 28 20 false [14,7,7],
 u 1 4 29 28 true [15],
 v 29 30 28 true [16,15],
 v 1 31 28 true [15],
 g (.nilCheck (t 31)) 32 28 true [18,15],
 u 11 32 33 28 true [19,15],
 v 33 34 28 true [20,15],
 g (.bin .geq (t 30) (t 34)) 35 28 true [17,21,15],
 g (.pick (t 28) (t 35) (.cm (.v (.bool false)))) 36 20 false [15,22,7],
 p 20 36 37 [7,23],
 m 37 3 (k [24,15] 24)]
def d108:DC:=(j (y Um)
 (j (y Un)
 (j (Y Bo)
 .ret)))
def NK:List bO:=[.slot 3]
theorem c108 [Laid]:aO Tryz.prog 108 38 d108 NK:=⟨Tryz.f108,by kernel_rfl,by kernel_rfl,by kernel_rfl,by kernel_rfl,by kernel_rfl⟩
def adN:List RO:=[
 o (.box (t 0)) 1 [],
 o (.bL (i 0)) 2 [],
 o (.bL (i 0)) 3 [1]]
def Lc:List RO:=[
 l 1 6 [],
 c 6 7 [0],
 a 4 7 8 [1],
 a 1 8 9 [2],
 l 9 10 [3],
 o (.len (t 10)) 11 [4],
 o (.mkFn (.func 108) [(t 1)]) 12 [],
 o (.callS 107 [(t 11),(t 12)]) 13 [5,6],
 m 13 4 (k [7,7] 7)]
def d80r1:List RO:=Lc.map bare
def adO:List RO:=[
 n 4 14,
 m 14 5 [0,0]]
def Ig:List RO:=[
 n 5 15,
 l 1 16 [],
 c 16 17 [1],
 a 4 17 18 [2],
 a 1 18 19 [3],
 l 19 20 [4],
 o (.len (t 20)) 21 [5],
 b .lss 15 21 22 [0,6],
 m 22 23 [7],
 v 1 24 23 true [8],
 g (.nilCheck (t 24)) 25 23 true [9,8],
 u 4 25 26 23 true [10,8],
 u 1 26 27 23 true [11,8],
 v 27 28 23 true [12,8],
 w 5 29 23 true [8],
 g (.idxAddr 5 (t 28) (t 29)) 30 23 true [13,14,8],
 u 0 30 31 23 true [15,8],
 v 31 32 23 true [16,8],
 v 1 33 23 true [8],
 g (.nilCheck (t 33)) 34 23 true [18,8],
 u 10 34 35 23 true [19,8],
 v 35 36 23 true [20,8],
 g (.bin .eql (t 32) (t 36)) 37 23 true [17,21,8],
 q 23 37 38 [8,22],
 m 38 39 [23,8],
 v 1 40 39 true [24],
 g (.nilCheck (t 40)) 41 39 true [25,24],
 u 4 41 42 39 true [26,24],
 u 1 42 43 39 true [27,24],
 v 43 44 39 true [28,24],
 w 5 45 39 true [24],
 g (.idxAddr 5 (t 44) (t 45)) 46 39 true [29,30,24],
 u 1 46 47 39 true [31,24],
 v 47 48 39 true [32,24],
 v 1 49 39 true [24],
 g (.nilCheck (t 49)) 50 39 true [34,24],
 u 11 50 51 39 true [35,24],
 v 51 52 39 true [36,24],
 g (.bin .eql (t 48) (t 52)) 53 39 true [33,37,24],
 q 39 53 54 [24,38]]
def adP:List RO:=[
 n 5 55,
 o (.bin .add (t 55) (i 1)) 56 [0],
 m 56 5 [1,0,1]]
def adQ:List RO:=[
 n 4 57,
 n 5 58,
 m 57 2 [0,0],
 m 58 3 [1,2,0,1,2]]
def d80:DC:=(j (y adN)
 (j (y d80r1)
 (j (y adO)
 (j (.block 0 (.loop (j (j (Y Ig)
 (.cond (.tmp 54) .skip
 (.exit 0)))
 (.block 1 (y adP)))))
 (j (y adQ)
 .ret)))))
def Uo:List bO:=[.slot 2,.slot 3]
theorem c80 [Laid]:aO Tryz.prog 80 59 d80 Uo:=⟨Tryz.f80,by kernel_rfl,by kernel_rfl,by kernel_rfl,by kernel_rfl,by kernel_rfl⟩
def adR:List RO:=[
 o (.box (t 1)) 4 []]
def adS:List RO:=[
 a 0 4 10 [],
 l 10 11 [0]]
def adT:List RO:=[
 o (.bin .eql (t 11) (i 1)) 13 [],
 m 13 12 [0]]
def adU:List RO:=[
 n 0 14,
 c 14 15 [0],
 a 10 15 16 [1],
 l 16 17 [2],
 n 0 18,
 c 18 19 [4],
 a 11 19 20 [5],
 l 20 21 [6],
 b .eql 17 21 22 [3,7]]
def adV:List RO:=[
 n 2 23,
 n 0 24,
 c 24 25 [1],
 a 10 25 26 [2],
 l 26 27 [3],
 a 4 4 28 [],
 l 28 29 [5],
 o (.callv (t 23) [(t 27),(t 29),(.cm .aJ)]) 30 [0,4,6]]
def adW:List RO:=[
 o (.bin .eql (t 11) (i 2)) 32 [],
 m 32 31 [0]]
def Ld:List RO:=[
 n 0 34,
 o (.callS 80 [(t 34)]) 35 [0],
 m 35 33 [1],
 e 0 33 36 [2],
 e 1 33 37 [2],
 m 36 6 [3,1,0,1,2,3],
 m 37 7 (k [4,5] 5)]
def d57r6:List RO:=Ld.map bare
def adX:List RO:=[
 n 6 38,
 m 38 8 [0,0]]
def adY:List RO:=[
 n 8 39,
 n 7 40,
 b .lss 39 40 41 [0,1]]
def Up:List RO:=[
 n 0 44,
 c 44 45 [0],
 a 4 45 46 [1],
 a 1 46 47 [2],
 l 47 48 [3],
 n 8 49,
 x 5 48 49 50 [4,5],
 a 2 50 51 [6],
 l 51 52 [7],
 a 2 4 53 [],
 l 53 54 [9],
 b .eql 52 54 55 [8,10],
 m 55 56 [11],
 w 2 57 56 true [12],
 w 8 58 56 true [12],
 u 4 4 59 56 true [12],
 v 59 60 56 true [15,12],
 w 0 61 56 true [12],
 g (.nilCheck (t 61)) 62 56 true [17,12],
 u 4 62 63 56 true [18,12],
 u 1 63 64 56 true [19,12],
 v 64 65 56 true [20,12],
 w 8 66 56 true [12],
 g (.idxAddr 5 (t 65) (t 66)) 67 56 true [21,22,12],
 u 3 67 68 56 true [23,12],
 v 68 69 56 true [24,12],
 g (.bin .add (t 60) (t 69)) 70 56 true [16,25,12],
 g (.callv (t 57) [(t 58),(t 70),(.cm .aJ)]) 71 56 true [13,14,26,12,12],
 g (.un .not (t 71)) 72 56 true [27,12],
 q 56 72 73 [12,28]]
def Lf:List RO:=[
 n 8 42,
 o (.bin .add (t 42) (i 1)) 43 [0],
 m 43 8 [1,0,1]]
def Uq:List RO:=[
 o (.bin .eql (t 11) (i 3)) 75 [],
 m 75 74 [0]]
def Ur:List RO:=[
 n 2 76,
 n 0 77,
 c 77 78 [1],
 a 10 78 79 [2],
 l 79 80 [3],
 a 4 4 81 [],
 l 81 82 [5],
 a 2 4 83 [],
 l 83 84 [7],
 n 0 85,
 c 85 86 [9],
 a 10 86 87 [10],
 l 87 88 [11],
 n 0 89,
 c 89 90 [13],
 a 11 90 91 [14],
 l 91 92 [15],
 o (.build [(.v (.int .i64 0)),(.v (.int .i64 0)),(.v (.int .i64 0))] [(0,1,(t 84)),(1,1,(t 88)),(2,1,(t 92))]) 93 [8,12,16],
 o (.bslice 1 3 [(.v (.int .i64 0)),(.v (.int .i64 0)),(.v (.int .i64 0))] [(0,3,(t 93))]) 94 [17],
 o (.callv (t 76) [(t 80),(t 82),(t 94)]) 95 [0,4,6,18]]
def Us:List RO:=[
 o (.bin .eql (t 11) (i 4)) 97 [],
 m 97 96 [0]]
def Ut:List RO:=[
 n 0 98,
 c 98 99 [0],
 a 10 99 100 [1],
 l 100 101 [2],
 m 101 9 [3,0,1,2,3]]
def Uu:List RO:=[
 n 9 102,
 n 0 103,
 c 103 104 [1],
 a 11 104 105 [2],
 l 105 106 [3],
 b .leq 102 106 107 [0,4]]
def Uv:List RO:=[
 n 2 110,
 n 9 111,
 a 4 4 112 [],
 l 112 113 [2],
 a 2 4 114 [],
 l 114 115 [4],
 n 0 116,
 c 116 117 [6],
 a 10 117 118 [7],
 l 118 119 [8],
 n 9 120,
 o (.build [(.v (.int .i64 0)),(.v (.int .i64 0)),(.v (.int .i64 0))] [(0,1,(t 115)),(1,1,(t 119)),(2,1,(t 120))]) 121 [5,9,10],
 a 3 4 122 [],
 l 122 123 [12],
 n 9 124,
 n 0 125,
 c 125 126 [15],
 a 11 126 127 [16],
 l 127 128 [17],
 o (.build [(.v (.int .i64 0)),(.v (.int .i64 0)),(.v (.int .i64 0))] [(0,1,(t 123)),(1,1,(t 124)),(2,1,(t 128))]) 129 [13,14,18],
 o (.bslice 2 3 [(.v (.int .i64 0)),(.v (.int .i64 0)),(.v (.int .i64 0)),(.v (.int .i64 0)),(.v (.int .i64 0)),(.v (.int .i64 0))] [(0,3,(t 121)),(3,3,(t 129))]) 130 [11,19],
 o (.callv (t 110) [(t 111),(t 113),(t 130)]) 131 [0,1,3,20],
 o (.un .not (t 131)) 132 [21]]
def Uw:List RO:=[
 n 9 108,
 o (.bin .add (t 108) (i 1)) 109 [0],
 m 109 9 [1,0,1]]
def d57:DC:=(j (y adR)
 (j (y adS)
 (.block 0 (j (y adT)
 (.cond (.tmp 12) (j (Y adU)
 (.cond (.tmp 22) (Y adV)
 .skip))
 (j (y adW)
 (.cond (.tmp 31) (j (y d57r6)
 (j (y adX)
 (.block 1 (.loop (j (j (y adY)
 (.cond (.tmp 41) .skip
 (.exit 1)))
 (j (.block 2 (j (Y Up)
 (.cond (.tmp 73) .ret
 .skip)))
 (y Lf)))))))
 (j (y Uq)
 (.cond (.tmp 74) (Y Ur)
 (j (y Us)
 (.cond (.tmp 96) (j (y Ut)
 (.block 3 (.loop (j (j (y Uu)
 (.cond (.tmp 107) .skip
 (.exit 3)))
 (j (.block 4 (j (Y Uv)
 (.cond (.tmp 132) .ret
 .skip)))
 (y Uw))))))
 .skip)))))))))))
def pP:List bO:=[]
theorem c57 [Laid]:aO Tryz.prog 57 133 d57 pP:=⟨Tryz.f57,by kernel_rfl,by kernel_rfl,by kernel_rfl,by kernel_rfl,by kernel_rfl⟩
def adZ:List RO:=[
 o (.box (t 1)) 4 []]
def ad0:List RO:=[
 a 0 4 8 [],
 l 8 9 [0],
 o (.bin .neq (t 9) (i 4)) 10 [1]]
def Lg:List RO:=[
 n 0 11,
 L 6 4 12 [],
 n 2 13,
 o (.callS 57 [(t 11),(t 12),(t 13)]) 14 [0,1,2]]
def d87r2:List RO:=Lg.map bare
def ad1:List RO:=[
 n 0 15,
 c 15 16 [0],
 a 10 16 17 [1],
 l 17 18 [2],
 n 0 19,
 c 19 20 [4],
 a 11 20 21 [5],
 l 21 22 [6],
 o (.bslice 2 1 [(.v (.int .i64 0)),(.v (.int .i64 0))] [(0,1,(t 18)),(1,1,(t 22))]) 23 [3,7],
 o (.len (t 23)) 24 [8],
 o (.bL (i 0)) 25 []]
def ad2:List RO:=[
 b .lss 25 24 26 []]
def ad3:List RO:=[
 x 1 23 25 27 [],
 l 27 28 [0],
 m 28 7 [1,0,1]]
def ad4:List RO:=[
 n 2 29,
 n 7 30,
 a 4 4 31 [],
 l 31 32 [2],
 a 2 4 33 [],
 l 33 34 [4],
 n 0 35,
 c 35 36 [6],
 a 10 36 37 [7],
 l 37 38 [8],
 n 7 39,
 o (.build [(.v (.int .i64 0)),(.v (.int .i64 0)),(.v (.int .i64 0))] [(0,1,(t 34)),(1,1,(t 38)),(2,1,(t 39))]) 40 [5,9,10],
 a 3 4 41 [],
 l 41 42 [12],
 n 7 43,
 n 0 44,
 c 44 45 [15],
 a 11 45 46 [16],
 l 46 47 [17],
 o (.build [(.v (.int .i64 0)),(.v (.int .i64 0)),(.v (.int .i64 0))] [(0,1,(t 42)),(1,1,(t 43)),(2,1,(t 47))]) 48 [13,14,18],
 o (.bslice 2 3 [(.v (.int .i64 0)),(.v (.int .i64 0)),(.v (.int .i64 0)),(.v (.int .i64 0)),(.v (.int .i64 0)),(.v (.int .i64 0))] [(0,3,(t 40)),(3,3,(t 48))]) 49 [11,19],
 o (.callv (t 29) [(t 30),(t 32),(t 49)]) 50 [0,1,3,20]]
def ad5:List RO:=[
 o (.bin .add (t 25) (i 1)) 51 [],
 m 51 25 [0]]
def d87:DC:=(j (y adZ)
 (j (j (y ad0)
 (.cond (.tmp 10) (j (y d87r2)
 .ret)
 .skip))
 (j (Y ad1)
 (.block 0 (.loop (j (y ad2)
 (j (.cond (.tmp 26) .skip
 (.exit 0))
 (j (.block 1 (j (y ad3)
 (Y ad4)))
 (y ad5)))))))))
def Lh:List bO:=[]
theorem c87 [Laid]:aO Tryz.prog 87 52 d87 Lh:=⟨Tryz.f87,by kernel_rfl,by kernel_rfl,by kernel_rfl,by kernel_rfl,by kernel_rfl⟩
def Ih:List RO:=[
 o (.bL (.cm (.v (.bool false)))) 8 []]
def tB:List RO:=[
 l 3 9 [],
 n 2 10,
 o (.call 59 [(t 9),(t 10)]) 11 [0,1],
 o (.un .not (t 11)) 12 [2]]
def Ux:List RO:=[
 l 3 9 [],
 n 2 10,
 o (.callS 59 [(t 9),(t 10)]) 11 [0,1],
 o (.un .not (t 11)) 12 [2]]
def NL:List RO:=[
 l 3 13 [],
 a 1 4 14 [],
 l 14 15 [1],
 l 3 16 [],
 n 1 17,
 n 2 18,
 o (.call 61 [(t 16),(t 17),(t 18)]) 19 [3,4,5],
 o (.call 60 [(t 13),(t 15),(t 19)]) 20 [0,2,6,6]]
def Uy:List RO:=[
 l 3 13 [],
 a 1 4 14 [],
 l 14 15 [1],
 l 3 16 [],
 n 1 17,
 n 2 18,
 o (.callS 61 [(t 16),(t 17),(t 18)]) 19 [3,4,5],
 o (.callS 60 [(t 13),(t 15),(t 19)]) 20 [0,2,6,6]]
def DB:List RO:=[
 o (.bL (.cm (.v (.bool true)))) 8 []]
def d58:DC:=(j (y Ih)
 (j (j (y tB)
 (.cond (.tmp 12) (Y NL)
 .skip))
 (j (y DB)
 .ret)))
def rW:List bO:=[.slot 8]
theorem c58 [Laid]:aO Tryz.prog 58 21 d58 rW:=⟨Tryz.f58,by kernel_rfl,by kernel_rfl,by kernel_rfl,by kernel_rfl,by kernel_rfl⟩
def ad6:List RO:=[
 o (.bL (.cm (.v (.bool false)))) 8 []]
def Bp:List RO:=[
 l 3 9 [],
 n 2 10,
 o (.callS 59 [(t 9),(t 10)]) 11 [0,1],
 m 11 12 [2,2],
 v 3 13 12 true [3],
 w 2 14 12 true [3],
 g (.callS 89 [(t 13),(t 14)]) 15 12 true [4,5,3,3],
 q 12 15 16 [3,6]]
def d88r1:List RO:=Bp.map bare
def Li:List RO:=[
 l 3 17 [],
 a 1 4 18 [],
 l 18 19 [1],
 l 3 20 [],
 n 1 21,
 n 2 22,
 o (.callS 61 [(t 20),(t 21),(t 22)]) 23 [3,4,5],
 o (.callS 60 [(t 17),(t 19),(t 23)]) 24 [0,2,6,6]]
def d88r2:List RO:=Li.map bare
def NM:List RO:=[
 o (.bL (.cm (.v (.bool true)))) 8 []]
def d88:DC:=(j (y ad6)
 (j (j (y d88r1)
 (.cond (.tmp 16) (Y d88r2)
 .skip))
 (j (y NM)
 .ret)))
def Fq:List bO:=[.slot 8]
theorem c88 [Laid]:aO Tryz.prog 88 25 d88 Fq:=⟨Tryz.f88,by kernel_rfl,by kernel_rfl,by kernel_rfl,by kernel_rfl,by kernel_rfl⟩
def ad7:List RO:=[
 o (.box (t 0)) 1 []]
def Bq:List RO:=[
 l 1 7 [],
 c 7 8 [0],
 a 15 8 9 [1],
 l 9 10 [2],
 o (.callS 85 [(t 10)]) 11 [3],
 m 11 6 [4],
 e 0 6 12 [5],
 e 1 6 13 [5],
 m 12 2 (k [6,4] 6),
 m 13 3 (k [7,8] 8)]
def d62r1:List RO:=Bq.map bare
def Uz:List RO:=[
 n 3 14,
 o (.un .not (t 14)) 15 [0]]
def ad8:List RO:=[
 l 1 16 [],
 c 16 17 [0],
 a 13 17 18 [1],
 l 18 19 [2],
 n 2 20,
 x 1 19 20 21 (k [3,4] 4),
 s (.store 1 (t 21) (.cm (.v (.bool true)))) (k [5] 4)]
def ad9:List RO:=[
 l 1 22 [],
 c 22 23 [0],
 a 0 23 24 [1],
 a 3 24 25 [2],
 l 25 26 [3],
 o (.len (t 26)) 27 [4],
 o (.bL (i 0)) 28 []]
def aea:List RO:=[
 b .lss 28 27 29 []]
def aeb:List RO:=[
 x 6 26 28 30 [],
 L 6 30 31 [0],
 o (.alloc [(.v (.int .i64 0)),(.v (.int .i64 0)),(.v (.int .i64 0)),(.v (.int .i64 0)),(.v (.int .i64 0)),(.v (.int .i64 0))]) 5 [],
 S 6 5 31 [2,1,0,1,2]]
def aec:List RO:=[
 L 6 5 32 [],
 n 2 33,
 o (.call 86 [(t 32),(t 33)]) 34 [0,1],
 o (.un .not (t 34)) 35 [2]]
def Lj:List RO:=[
 l 1 36 [],
 L 6 5 37 [],
 o (.mkFn (.func 88) [(t 1),(t 5)]) 38 [],
 o (.callS 87 [(t 36),(t 37),(t 38)]) 39 [0,1,2]]
def d62r8:List RO:=Lj.map bare
def UA:List RO:=[
 o (.bin .add (t 28) (i 1)) 40 [],
 m 40 28 [0]]
def d62:DC:=(j (y ad7)
 (.block 0 (.loop (.block 1 (j (y d62r1)
 (j (j (y Uz)
 (.cond (.tmp 15) .ret
 .skip))
 (j (y ad8)
 (j (y ad9)
 (.block 2 (.loop (j (y aea)
 (j (.cond (.tmp 29) .skip
 (.exit 2))
 (j (.block 3 (j (y aeb)
 (j (j (y aec)
 (.cond (.tmp 35) (.exit 3)
 .skip))
 (y d62r8))))
 (y UA))))))))))))))
def UB:List bO:=[]
theorem c62 [Laid]:aO Tryz.prog 62 41 d62 UB:=⟨Tryz.f62,by kernel_rfl,by kernel_rfl,by kernel_rfl,by kernel_rfl,by kernel_rfl⟩
def aed:List RO:=[
 o (.bL (.cm (.v (.bool false)))) 10 []]
def Lk:List RO:=[
 l 3 11 [],
 n 1 12,
 n 2 13,
 o (.callS 61 [(t 11),(t 12),(t 13)]) 14 [0,1,2],
 L 2 4 15 [],
 o (.eqT true true [(.int .i64),(.int .i64)] (t 14) (t 15)) 16 [3,4]]
def d90r1:List RO:=Lk.map bare
def aee:List RO:=[
 o (.bL (.cm (.v (.bool true)))) 10 []]
def aef:List RO:=[
 L 2 4 17 [],
 l 5 18 [],
 n 0 19,
 o (.build [(.v (.int .i64 0)),(.v (.int .i64 0)),(.v (.int .i64 0)),(.v (.int .i64 0))] [(0,2,(t 17)),(2,1,(t 18)),(3,1,(t 19))]) 20 [0,1,2],
 S 4 6 20 [3,0,1,2,3]]
def aeg:List RO:=[
 o (.bL (.cm (.v (.bool false)))) 10 []]
def d90:DC:=(j (y aed)
 (j (j (Y d90r1)
 (.cond (.tmp 16) (j (y aee)
 .ret)
 .skip))
 (j (y aef)
 (j (y aeg)
 .ret))))
def Ll:List bO:=[.slot 10]
theorem c90 [Laid]:aO Tryz.prog 90 21 d90 Ll:=⟨Tryz.f90,by kernel_rfl,by kernel_rfl,by kernel_rfl,by kernel_rfl,by kernel_rfl⟩
def aeh:List RO:=[
 o (.box (t 0)) 2 [],
 o (.alloc [(.v (.int .i64 0)),(.v (.int .i64 0)),(.v (.int .i64 0)),(.v (.int .i64 0))]) 4 []]
def aei:List RO:=[
 l 2 9 [],
 c 9 10 [0],
 a 12 10 11 [1],
 l 11 12 [2],
 n 1 13,
 x 2 12 13 14 [3,4],
 L 2 14 15 [5],
 o (.alloc [(.v (.int .i64 0)),(.v (.int .i64 0))]) 5 [],
 S 2 5 15 (k [7,6] 7)]
def aej:List RO:=[
 o (.load 4 true (.cm (.gE [(.int .i64 1099511627776),(.int .i64 0),(.int .i64 (-1)),(.int .i64 0)] 0))) 16 [],
 o (.alloc [(.v (.int .i64 0)),(.v (.int .i64 0)),(.v (.int .i64 0)),(.v (.int .i64 0))]) 6 [],
 S 4 6 16 [1,0,0,1]]
def aek:List RO:=[
 l 2 17 [],
 c 17 18 [0],
 a 0 18 19 [1],
 a 3 19 20 [2],
 l 20 21 [3],
 o (.len (t 21)) 22 [4],
 o (.bL (i 0)) 23 []]
def ael:List RO:=[
 b .lss 23 22 24 []]
def aem:List RO:=[
 n 23 25,
 x 6 21 23 26 [],
 L 6 26 27 [1],
 o (.alloc [(.v (.int .i64 0))]) 7 [],
 o (.alloc [(.v (.int .i64 0)),(.v (.int .i64 0)),(.v (.int .i64 0)),(.v (.int .i64 0)),(.v (.int .i64 0)),(.v (.int .i64 0))]) 8 [],
 S 1 7 25 (k [3,0] 4),
 S 6 8 27 (k [4,2,5] 5)]
def Ii:List RO:=[
 a 1 8 28 [],
 l 28 29 [0],
 n 1 30,
 b .neq 29 30 31 [1,2],
 m 31 32 [3],
 u 0 5 33 32 false [4],
 v 33 34 32 false [5,4],
 g (.bin .geq (t 34) (i 1099511627776)) 35 32 false [6,4],
 p 32 35 36 [4,7],
 m 36 37 [8,4],
 u 2 6 38 37 false [9],
 v 38 39 37 false [10,9],
 g (.bin .geq (t 39) (i 0)) 40 37 false [11,9],
 p 37 40 41 [9,12]]
def Lm:List RO:=[
 l 2 42 [],
 L 6 8 43 [],
 o (.mkFn (.func 90) [(t 2),(t 5),(t 7),(t 6)]) 44 [],
 o (.callS 57 [(t 42),(t 43),(t 44)]) 45 [0,1,2]]
def d63r7:List RO:=Lm.map bare
def UC:List RO:=[
 o (.bin .add (t 23) (i 1)) 46 [],
 m 46 23 [0]]
def aen:List RO:=[
 L 4 6 47 [],
 S 4 4 47 [0,0]]
def d63:DC:=(j (y aeh)
 (j (y aei)
 (j (y aej)
 (j (j (y aek)
 (.block 0 (.loop (j (y ael)
 (j (.cond (.tmp 24) .skip
 (.exit 0))
 (j (.block 1 (j (y aem)
 (j (j (y Ii)
 (.cond (.tmp 41) (.exit 1)
 .skip))
 (y d63r7))))
 (y UC)))))))
 (j (y aen)
 .ret)))))
def UD:List bO:=[.cell 4 4 true]
theorem c63:aO Tryz.prog 63 48 d63 UD:=⟨Tryz.f63,by kernel_rfl,by kernel_rfl,by kernel_rfl,by kernel_rfl,by kernel_rfl⟩
def aeo:List RO:=[
 o (.bL (.cm (.v (.bool false)))) 5 []]
def aep:List RO:=[
 l 2 6 [],
 c 6 7 [0],
 a 12 7 8 [1],
 l 8 9 [2],
 n 0 10,
 x 2 9 10 11 [3,4],
 L 2 11 12 [5],
 l 2 13 [],
 c 13 14 [7],
 a 12 14 15 [8],
 l 15 16 [9],
 n 1 17,
 x 2 16 17 18 [10,11],
 L 2 18 19 [12],
 o (.call 56 [(t 12),(t 19)]) 20 [6,13],
 m 20 5 (k [14,14] 14)]
def d55:DC:=(j (y aeo)
 (j (Y aep)
 .ret))
def UE:List bO:=[.slot 5]
theorem c55 [Laid]:aO Tryz.prog 55 21 d55 UE:=⟨Tryz.f55,by kernel_rfl,by kernel_rfl,by kernel_rfl,by kernel_rfl,by kernel_rfl⟩
def Ij:List RO:=[
 o (.box (t 0)) 5 [],
 o (.box (t 1)) 6 [],
 o (.box (t 2)) 7 [],
 o (.bL (.cm .aJ)) 10 []]
def Ik:List RO:=[
 L 4 5 17 [],
 L 3 6 18 [],
 L 3 7 19 [],
 n 3 20,
 n 4 21,
 a 1 5 22 [],
 l 22 23 [5],
 o (.mkSlice 55 2 16 [(.int .i64 0),(.int .i64 0)] (t 23)) 24 [6,6],
 a 1 5 25 [],
 l 25 26 [8],
 o (.mkSlice 4 1 1 [(.bool false)] (t 26)) 27 [9,9],
 a 1 5 28 [],
 l 28 29 [11],
 o (.mkSlice 3 1 8 [(.int .i64 0)] (t 29)) 30 [12,12],
 o (.build [(.v (.int .i64 0)),(.v (.int .i64 0)),(.v (.int .i64 0)),.aJ,(.v (.int .i64 0)),.aJ,.aJ,(.v (.int .i64 0)),(.v (.int .i64 0)),.aJ,(.v (.int .i64 0)),(.v (.int .i64 0)),.aJ,.aJ,.aJ,(.v (.raw (Go.Value.pointer Option.none)))] [(0,4,(t 17)),(4,3,(t 18)),(7,3,(t 19)),(10,1,(t 20)),(11,1,(t 21)),(12,1,(t 24)),(13,1,(t 27)),(14,1,(t 30))]) 31 [0,1,2,3,4,7,10,13],
 o (.box (t 31)) 32 [14],
 o (.alloc [(.v (.raw (Go.Value.pointer Option.none)))]) 11 [],
 S 1 11 32 (k [16,15] 16)]
def Il:List RO:=[
 l 11 33 [],
 o (.mkFn (.func 55) [(t 11)]) 34 [],
 o (.call 54 [(t 34)]) 35 [1],
 c 33 36 [0,0,1,2],
 a 15 36 37 [3,0,1,2],
 S 1 37 35 [4,2,2,0,1,2]]
def Im:List RO:=[
 l 11 38 [],
 c 38 39 [0],
 a 12 39 40 [1],
 l 40 41 [2],
 o (.len (t 41)) 42 [3],
 o (.bL (i 0)) 43 []]
def Io:List RO:=[
 b .lss 43 42 44 []]
def Ip:List RO:=[
 n 43 45,
 m 45 12 [0,0]]
def Iq:List RO:=[
 l 11 46 [],
 c 46 47 [0],
 a 12 47 48 [1],
 l 48 49 [2],
 n 12 50,
 o (.addOff 0 (.cm (.gE [(.int .i64 1099511627776),(.int .i64 0),(.int .i64 (-1)),(.int .i64 0)] 0))) 51 [],
 L 2 51 52 [5],
 x 2 49 50 53 (k [3,4] 6),
 S 2 53 52 (k [7,6] 6)]
def vL:List RO:=[
 l 11 54 [],
 c 54 55 [0],
 a 14 55 56 [1],
 l 56 57 [2],
 n 12 58,
 x 1 57 58 59 (k [3,4] 4),
 s (.store 1 (t 59) (i (-1))) (k [5] 4)]
def Ir:List RO:=[
 o (.bin .add (t 43) (i 1)) 60 [],
 m 60 43 [0]]
def Is:List RO:=[
 a 3 5 61 [],
 l 61 62 [0],
 o (.len (t 62)) 63 [1],
 o (.bL (i 0)) 64 []]
def Br:List RO:=[
 b .lss 64 63 65 []]
def uj:List RO:=[
 x 6 62 64 66 [],
 L 6 66 67 [0],
 o (.alloc [(.v (.int .i64 0)),(.v (.int .i64 0)),(.v (.int .i64 0)),(.v (.int .i64 0)),(.v (.int .i64 0)),(.v (.int .i64 0))]) 14 [],
 S 6 14 67 [2,1,0,1,2]]
def Fs:List RO:=[
 l 11 68 [],
 L 6 14 69 [],
 o (.mkFn (.func 58) [(t 11),(t 14)]) 70 [],
 o (.call 57 [(t 68),(t 69),(t 70)]) 71 [0,1,2]]
def NN:List RO:=[
 l 11 68 [],
 L 6 14 69 [],
 o (.mkFn (.func 58) [(t 11),(t 14)]) 70 [],
 o (.callS 57 [(t 68),(t 69),(t 70)]) 71 [0,1,2]]
def Bs:List RO:=[
 o (.bin .add (t 64) (i 1)) 72 [],
 m 72 64 [0]]
def Bt:List RO:=[
 l 11 73 [],
 o (.call 62 [(t 73)]) 74 [0]]
def NO:List RO:=[
 l 11 73 [],
 o (.callS 62 [(t 73)]) 74 [0]]
def Bu:List RO:=[
 o (.bL (.cm .aJ)) 15 []]
def Bv:List RO:=[
 a 1 5 75 [],
 l 75 76 [0],
 o (.bL (i 0)) 77 []]
def Bw:List RO:=[
 b .lss 77 76 78 []]
def Bx:List RO:=[
 n 77 79,
 m 79 16 [0,0]]
def Ft:List RO:=[
 n 15 80,
 l 11 81 [],
 n 16 82,
 o (.callS 63 [(t 81),(t 82)]) 83 [1,2],
 o (.bslice 1 4 [(.v (.int .i64 0)),(.v (.int .i64 0)),(.v (.int .i64 0)),(.v (.int .i64 0))] [(0,4,(t 83))]) 84 [3],
 o (.append 57 4 32 (t 80) (t 84)) 85 [0,4,3],
 m 85 15 (k [5,5] 5)]
def d35r19:List RO:=Ft.map bare
def UF:List RO:=[
 o (.bin .add (t 77) (i 1)) 86 [],
 m 86 77 [0]]
def UG:List RO:=[
 n 15 87,
 m 87 10 [0,0]]
def d35:DC:=(j (y Ij)
 (j (Y Ik)
 (j (Y Il)
 (j (j (y Im)
 (.block 0 (.loop (j (y Io)
 (j (.cond (.tmp 44) .skip
 (.exit 0))
 (j (.block 1 (j (y Ip)
 (j (Y Iq)
 (y vL))))
 (y Ir)))))))
 (j (j (y Is)
 (.block 2 (.loop (j (y Br)
 (j (.cond (.tmp 65) .skip
 (.exit 2))
 (j (.block 3 (j (y uj)
 (y Fs)))
 (y Bs)))))))
 (j (y Bt)
 (j (y Bu)
 (j (j (y Bv)
 (.block 4 (.loop (j (y Bw)
 (j (.cond (.tmp 78) .skip
 (.exit 4))
 (j (.block 5 (j (y Bx)
 (y d35r19)))
 (y UF)))))))
 (j (y UG)
 .ret)))))))))
def By:List bO:=[.slot 10]
theorem c35:aO Tryz.prog 35 88 d35 By:=⟨Tryz.f35,by kernel_rfl,by kernel_rfl,by kernel_rfl,by kernel_rfl,by kernel_rfl⟩
structure bE where
 (kind head a b bF origin:Int)
 deriving DecidableEq,Inhabited
structure aH where
 (aV an start:Int)
 rules:List bE
structure br where
 (cost size:Int)
 deriving DecidableEq,Inhabited
structure Cell where
 (cost size ez arg:Int)
 deriving DecidableEq,Inhabited
structure bT where
 (an aN:Int)
 cells:List Cell
abbrev Cell.val(c:Cell):br:=⟨c.cost,c.size⟩
theorem dZ:ay Tryz.prog (aW []):=ay.nil
def bE.enc(r:bE):List T:=[ti r.kind,ti r.head,ti r.a,ti r.b,ti r.bF,ti r.origin]
def aQ(l:List bE):List (List T):=l.map bE.enc
def aH.enc(n:aH):T:=.agg [ti n.aV,ti n.an,ti n.start,.sl (aQ n.rules)]
def bJ(l:List br):List (List T):=l.map λv=>[ti v.cost,ti v.size]
def Cell.enc(c:Cell):List T:=[ti c.cost,ti c.size,ti c.ez,ti c.arg]
def aI(l:List Cell):List (List T):=l.map Cell.enc
def bT.enc(c:bT):T:=.agg [ti c.an,ti c.aN,.sl (aI c.cells)]
def pQ:List T->bE
 |[a,b,c,d,e,f]=>⟨cZ a,cZ b,cZ c,cZ d,cZ e,cZ f⟩
 |_=>default
def vM(l:List (List T)):List bE:=l.map pQ
def lq(l:List (List T)):List br:=l.map fun|[a,b]=>⟨cZ a,cZ b⟩|_=>default
def Fu:List T->Cell
 |[a,b,c,d]=>⟨cZ a,cZ b,cZ c,cZ d⟩
 |_=>default
def j5(l:List (List T)):List Cell:=l.map Fu
def nY:T->aH
 |.agg [a,b,c,.sl r]=>⟨cZ a,cZ b,cZ c,vM r⟩
 |_=>⟨0,0,0,[]⟩
def pR:T->bT
 |.agg [a,b,.sl r]=>⟨cZ a,cZ b,j5 r⟩
 |_=>⟨0,0,[]⟩
@[simp] theorem Iu(r:bE):pQ r.enc=r:=by simp[pQ,bE.enc,cZ]
@[simp] theorem Yu(l:List bE):vM (aQ l)=l:=fD Iu l
@[simp] theorem aeq(l:List br):lq (bJ l)=l:=fD (λ_=>rfl) l
@[simp] theorem Iv(r:Cell):Fu r.enc=r:=by simp[Fu,Cell.enc,cZ]
@[simp] theorem Yv(l:List Cell):j5 (aI l)=l:=fD Iv l
@[simp] theorem decN_enc'(a b c:Int)(l:List bE):nY (.agg [ti a,ti b,ti c,.sl (aQ l)])=⟨a,b,c,l⟩:=by simp[nY,cZ]
@[simp] theorem decN_enc(n:aH):nY n.enc=n:=by simp[aH.enc]
@[simp] theorem decC_enc'(a b:Int)(l:List Cell):pR (.agg [ti a,ti b,.sl (aI l)])=⟨a,b,l⟩:=by simp[pR,cZ]
@[simp] theorem decC_enc(n:bT):pR n.enc=n:=by simp[bT.enc]
@[simp] theorem rulesT_len(l:List bE):(aQ l).length=l.length:=by simp[aQ]
@[simp] theorem valsT_len(l:List br):(bJ l).length=l.length:=by simp[bJ]
@[simp] theorem cellsT_len(l:List Cell):(aI l).length=l.length:=by simp[aI]
theorem fW{l:List bE}{y:Nat}(h:y<l.length):DM.rowAt (aQ l) y=(l.getD y default).enc:=by simp[DM.rowAt,aQ,h]
theorem dP{l:List br}{y:Nat}(h:y<l.length):DM.rowAt (bJ l) y=[ti (l.getD y default).cost,ti (l.getD y default).size]:=by simp[DM.rowAt,bJ,h]
theorem fq{l:List Cell}{y:Nat}(h:y<l.length):DM.rowAt (aI l) y=(l.getD y default).enc:=by simp[DM.rowAt,aI,h]
@[simp] theorem Pq:bJ []=[]:=rfl
@[simp] theorem cellsT_nil:aI []=[]:=rfl
theorem bw{α:Type} [Inhabited α]{l:List α}{i:Nat}(h:i<l.length):l.getD i default∈l:=by simp[List.getD,h]
def br.lt(a b:br):Prop:=a.cost<b.cost\/(a.cost=b.cost/\a.size<b.size)
instance(a b:br):Decidable (a.lt b):=by unfold br.lt;infer_instance
theorem t92(u v:br):aT Tryz.prog 92 [.agg [ti u.cost,ti u.size],.agg [ti v.cost,ti v.size]] (.bool (decide (u.lt v))):=by
 obtain⟨a,b⟩:=u;obtain⟨c,d⟩:=v;obtain⟨c1,aX⟩:∃c1:Bool,decide ((⟨a,b⟩:br).lt ⟨c,d⟩)=c1:=⟨_,rfl⟩;rw[aX];simp only[br.lt]at aX;have aw:=dZ;refine c92.ok (by simp) (aK ?_);simp;refine aa.ab aw fw [2,3] ?_;simp[Z6];refine aa.le (Le.aD (o:=[]) (l:=[(2,.v (.box [ti a,ti b])),(3,.v (.box [ti c,ti d]))]) (nxt':=1200) ?_ ?_ ?_ ?_) ?_;iterate 4(·simp)
 refine aa.b7 aw fw [(4,.v (.bool c1))] ?_ ?_
 ·by_cases q1:a<c
  ·have:c1=true:=by rw[<-aX];simp[q1]
   simp[Hr,q1,this]
  ·by_cases q2:a=c
   ·subst q2;by_cases q3:b<d
    ·have:c1=true:=by rw[<-aX];simp[q3]
     simp[Hr,q3,this]
    ·have:c1=false:=by rw[<-aX];simp[q3]
     simp[Hr,q3,this]
   ·have:c1=false:=by rw[<-aX];simp[q1,q2]
    simp[Hr,q1,q2,this]
 refine aa.ret ?_;simp[R5]
def en:Int->Int->List br->br
 |c,s,[]=>⟨c,s⟩
 |c,s,v::l=>en (min (c+v.cost) 1099511627776) (min (s+v.size) 1099511627776) l
def comb(c:Int)(l:List br):br:=if(en c 1 l).cost>=1099511627776 then⟨1099511627776,0⟩else en c 1 l
theorem Bz(c s:Int)(l:List br)(v:br):en c s (l++[v])=⟨min ((en c s l).cost+v.cost) 1099511627776,min ((en c s l).size+v.size) 1099511627776⟩:=by
 induction l generalizing c s with
 |nil=>rfl
 |cons x l ih=>simp only[ZaH,en,ih]
def kU(v:br):Prop:=0<=v.cost/\v.cost<=1099511627776/\0<=v.size/\v.size<=1099511627776
theorem rX{l:List br}(h:∀v∈l,kU v):∀{c s:Int},0<=c->c<=4000000000000->0<=s->s<=1099511627776->0<=(en c s l).cost/\(en c s l).cost<=4000000000000/\0<=(en c s l).size/\(en c s l).size<=1099511627776:=by
 induction l with
 |nil=>intro c s h1 h2 h3 h4;exact⟨h1,h2,h3,h4⟩
 |cons x l ih=>
  intro c s h1 h2 h3 h4;obtain⟨g1,g2,g3,g4⟩:=h x (by simp);exact ih (λv hv=>h v (by simp[hv])) (by omega) (by omega) (by omega) (by omega)
theorem iJ{c:Int}{l:List br}(h:∀v∈l,kU v)(h1:0<=c)(h2:c<=4000000000000):kU (comb c l):=by
 have:=rX (c:=c) (s:=1) h h1 h2 (by omega) (by omega);unfold comb kU;split
 ·simp
 ·omega
theorem cG{α:Type} [Inhabited α]{l:List α}{i:Nat}(h:i<l.length):l.take (i+1)=l.take i++[l.getD i default]:=by
 rw[Zbw,Zan h];simp[List.getD,h]
theorem t69(c:Int)(l:List br)(h:∀v∈l,kU v)(h1:0<=c)(h2:c<=4000000000000)(h3:l.length<=1000000):aT Tryz.prog 69 [ti c,.sl (bJ l)] (.agg [ti (comb c l).cost,ti (comb c l).size]):=by
 have aw:=dZ;refine c69.ok (by simp) (aK ?_);simp;refine aa.ab aw fw [0,1,4] ?_;simp[Z7];refine aa.ab aw fw [1,4,5,6] ?_;simp[Z8];refine aa.seq ?_;refine aa.ab aw fw [1,4,5,6,7] ?_;simp[Z9];refine aa.block ?_;refine aa.loop (λy:Nat=>⟨DM.look [(1,.v (.sl (bJ l))),(4,.ptr 1005 0),(5,.v (ti (en c 1 (l.take y)).cost)),(6,.v (ti (en c 1 (l.take y)).size)),(7,.v (ti y))],cE [(1005,.box [.v (ti 0),.v (ti 0)])],2000,1000,[]⟩)
  (λy=>y<=l.length) (λy=>l.length-y) 0 (Le.aD ?_ ?_ ?_ ?_) (by simp) (λy hy=>?_)
 iterate 3(·simp)
 ·simp[en]
 refine aa.seq ?_;refine aa.ab aw fw [1,4,5,6,7,12] ?_;simp[aaa];refine aa.cond rfl (λbK=>?_) (λbK=>?_)
 ·have bK:y<l.length:=by simpa using bK
  refine aa.skip ?_;simp;refine aa.seq ?_;refine aa.block ?_;have rv:=dP bK;obtain⟨v,hv⟩:∃v,l.getD y default=v:=⟨_,rfl⟩;rw[hv]at rv;have hov:=h v (by rw[<-hv];exact bw bK);obtain⟨o1,o2,o3,o4⟩:=hov;obtain⟨b1,b2,b3,b4⟩:=rX (c:=c) (s:=1) (l:=l.take y) (λv hv=>h v (Zav hv)) h1 h2 (by omega) (by omega);refine aa.dc aw fw [1,4,5,6,7] ?_;simp[aab,bK,rv];refine aa.dc aw fw [1,4,5,6,7] ?_;simp[aac];rw[au (by omega),au (by omega),au (by omega)];refine⟨y+1,Le.aD ?_ ?_ ?_ ?_,by omega,by omega⟩;iterate 3(·simp)
  ·simp[cG bK,Bz,-List.getD_eq_getElem?_getD,hv]
 ·have fg:y=l.length:=by simp at bK;omega
  subst fg;rw[Zbd];refine aa.exit ?_;simp;refine aa.seq ?_;refine aa.ab aw fw [4,5,6,32] ?_;simp[aad];refine aa.cond rfl (λh7=>?_) (λh7=>?_)
  ·have h7:(en c 1 l).cost>=1099511627776:=by simpa using h7
   refine aa.ab aw fw [4] ?_;simp[aae];refine aa.ret ?_;simp[KI,comb,h7]
  ·have h7:¬(en c 1 l).cost>=1099511627776:=by simpa using h7
   refine aa.skip ?_;simp;refine aa.ab aw fw [4] ?_;simp[aaf];refine aa.ret ?_;simp[KI,comb,h7]
def fc:Cell:=⟨1099511627776,0,-1,0⟩
theorem t42:aT Tryz.prog 42 [] (.agg fc.enc):=by
 have aw:=dZ;refine c42.ok (by simp) (aK ?_);simp;refine aa.ab aw fw [0] ?_;simp[abb];refine aa.ab aw fw [0] ?_;simp[abc];refine aa.ret ?_;simp[Su,fc,Cell.enc]
def cQ(n s:Int):Int:=n*s*(s+1)/2
theorem cK{a b A B:Int}(h1:0<=a)(h2:a<=A)(h3:0<=b)(h4:b<=B):0<=a*b/\a*b<=A*B:=by
 refine⟨ZbU h1 h3, ?_⟩;exact Int.mul_le_mul h2 h4 h3 (by omega)
theorem t23(n s:Int)(h1:0<=n)(h2:n<=1000000)(h3:0<=s)(h4:s<=1000000):aT Tryz.prog 23 [ti n,ti s] (ti (cQ n s)):=by
 have k1:=cK h1 h2 h3 h4;have k2:=cK (b:=s+1) (B:=1000001) k1.1 k1.2 (by omega) (by omega);have w1:IntKind.i64.wrap (n*s)=n*s:=au (by omega);have w2:IntKind.i64.wrap (s+1)=s+1:=au (by omega);have w3:IntKind.i64.wrap (n*s*(s+1))=n*s*(s+1):=au (by omega);have w4:IntKind.i64.wrap ((n*s*(s+1)).tdiv 2)=n*s*(s+1)/2:=by rw[lZ k2.1];exact au (by omega)
 have aw:=dZ;refine c23.ok (by simp) (aK ?_);simp;refine aa.ab aw fw [0,1] ?_;simp[abd];refine aa.ab aw fw [4] ?_;simp[abe,w1,w2,w3,w4];refine aa.ret ?_;simp[Sv,cQ]
def pre(st:Int):Nat->Int
 |0=>0
 |n+1=>pre st n+st-n
theorem dQ{st:Int}(h:st<=1000):∀n:Nat,(n:Int)<=st->0<=pre st n/\pre st n<=1000*n
 |0,_=>by simp[pre]
 |n+1,hn=>by
  have:=dQ h n (by omega);simp only[pre];omega
def bU(n st:Int)(f t:Nat):Int:=(pre st f+t-f)*n
theorem t25(n st:Int)(f t:Nat)(h1:0<=n)(h2:n<=1000)(h3:st<=1000)(h4:(f:Int)<=st)(h5:t<=1000)(h6:f<=t):aT Tryz.prog 25 [ti n,ti st,ti f,ti t] (ti (bU n st f t)):=by
 have aw:=dZ;refine c25.ok (by simp) (aK ?_);simp;refine aa.ab aw fw [0,1,2,3] ?_;simp[abf];refine aa.ab aw fw [0,1,2,3,9] ?_;simp[abg];refine aa.seq ?_;refine aa.ab aw fw [0,1,2,3,9,10] ?_;simp[abh];refine aa.block ?_;refine aa.loop (λy:Nat=>⟨DM.look [(0,.v (ti n)),(1,.v (ti st)),(2,.v (ti f)),(3,.v (ti t)),(9,.v (ti (pre st y))),(10,.v (ti y))],cE [],2000,1000,[]⟩)
  (λy=>y<=f) (λy=>f-y) 0 (Le.aD (o:=[]) ?_ ?_ ?_ ?_) (by simp) (λy hy=>?_)
 iterate 3(·simp)
 ·simp[pre]
 refine aa.seq ?_;refine aa.ab aw fw [0,1,2,3,9,10,13] ?_;simp[abi];refine aa.cond rfl (λbK=>?_) (λbK=>?_)
 ·have bK:y<f:=by simpa using bK
  refine aa.skip ?_;simp;refine aa.seq ?_;refine aa.block ?_;refine aa.dc aw fw [0,1,2,3,9,10] ?_;simp[abj];refine aa.dc aw fw [0,1,2,3,9,10] ?_;simp[abk];have hb:=dQ h3 y (by omega);have kp:=dQ h3 (y+1) (by omega);simp only[pre]at kp;rw[au (x:=pre st y+st) (by omega),au (x:=pre st y+st-y) (by omega),au (x:=(y:Int)+1) (by omega)];refine⟨y+1,Le.aD (o:=[]) ?_ ?_ ?_ ?_,by omega,by omega⟩;iterate 3(·simp)
  ·simp[pre]
 ·have fg:y=f:=by simp at bK;omega
  subst fg;have hb:=dQ h3 y (by omega);have hm:=cK (a:=pre st y+t-y) (A:=2000000) (b:=n) (B:=1000) (by omega) (by omega) h1 h2;refine aa.exit ?_;simp;refine aa.ab aw fw [8] ?_;simp[abl,au (x:=pre st y+t) (by omega),au (x:=pre st y+t-y) (by omega),au (x:=(pre st y+t-y)*n) (by omega)];refine aa.ret ?_;simp[Sw,bU]
def dF(a:Cell)(v:br)(r g:Int):Cell:=if v.cost>=1099511627776 then a else if v.lt a.val\/(v=a.val/\(r<a.ez\/(r=a.ez/\g<a.arg)))then⟨v.cost,v.size,r,g⟩else a
abbrev s92:DM.Spec:=cz (λts=>∃a b c d,ts=[.agg [ti a,ti b],.agg [ti c,ti d]]) (fun|[.agg [.int _ a,.int _ b],.agg [.int _ c,.int _ d]]=>.bool (decide ((⟨a,b⟩:br).lt ⟨c,d⟩))|_=>.bool false) true
theorem ok92:ay Tryz.prog (aW [(92,s92)]):=by
 refine ay.cons ay.nil ?_;rintro ts ⟨a,b,c,d,rfl⟩;exact⟨t92 ⟨a,b⟩ ⟨c,d⟩,λ_=>rfl⟩
theorem t68(a:Cell)(v:br)(r g:Int):aT Tryz.prog 68 [.agg a.enc,.agg [ti v.cost,ti v.size],ti r,ti g] (.agg (dF a v r g).enc):=by
 obtain⟨ac,az,ar,ag⟩:=a;obtain⟨vc,vs⟩:=v;obtain⟨R,hR⟩:∃R,dF ⟨ac,az,ar,ag⟩ ⟨vc,vs⟩ r g=R:=⟨_,rfl⟩;rw[hR];unfold dF at hR;simp only[Cell.val,br.mk.injEq]at hR;have aw:=ok92;refine c68.ok (by simp) (aK ?_);simp[Cell.enc];refine aa.ab aw fw [2,3,4,5,8] ?_;simp[abm];refine aa.le (Le.aD (o:=[(1009,.box [.v (ti 0),.v (ti 0),.v (ti 0),.v (ti 0)])]) (l:=[(2,.v (ti r)),(3,.v (ti g)),(4,.v (.box [ti ac,ti az,ti ar,ti ag])),(5,.v (.box [ti vc,ti vs])),(8,.ptr 1009 0)]) (nxt':=1200) ?_ ?_ ?_ ?_) ?_;iterate 4(·simp)
 refine aa.seq ?_;refine aa.ab aw fw [2,3,4,5,8,13] ?_;simp[abn];refine aa.cond rfl (λh1=>?_) (λh1=>?_)
 ·have h1:vc>=1099511627776:=by simpa using h1
  refine aa.ab aw fw [8] ?_;simp[abo];refine aa.ret ?_;rw[if_pos h1]at hR;subst hR;simp[Fe]
 ·have h1:¬vc>=1099511627776:=by simpa using h1
  refine aa.skip ?_;simp;rw[if_neg h1]at hR;obtain⟨c1,aX⟩:∃c1:Bool,decide ((⟨vc,vs⟩:br).lt ⟨ac,az⟩)=c1:=⟨_,rfl⟩;refine aa.ab aw fw [2,3,4,5,8,9] ?_;simp[abp,aX];obtain⟨c2,dU⟩:∃c2:Bool,decide ((vc=ac/\vs=az)/\(r<ar\/(r=ar/\g<ag)))=c2:=⟨_,rfl⟩;refine aa.b7 aw fw [(2,.v (ti r)),(3,.v (ti g)),(4,.v (.box [ti ac,ti az,ti ar,ti ag])),(5,.v (.box [ti vc,ti vs])),(8,.ptr 1009 0),(9,.v (.bool c1)),(10,.v (.bool c2))] ?_ ?_
  ·by_cases q1:vc=ac/\vs=az
   ·obtain⟨rfl,rfl⟩:=q1;by_cases q2:r<ar
    ·have:c2=true:=by rw[<-dU];simp[q2]
     simp[Dy,q2,this]
    ·by_cases q3:r=ar
     ·subst q3;by_cases q4:g<ag
      ·have:c2=true:=by rw[<-dU];simp[q4]
       simp[Dy,q4,this]
      ·have:c2=false:=by rw[<-dU];simp[q4]
       simp[Dy,q4,this]
     ·have:c2=false:=by rw[<-dU];simp[q2,q3]
      simp[Dy,q2,q3,this]
   ·have:c2=false:=by rw[<-dU];simp[q1]
    simp[Dy,q1,this]
  refine aa.seq ?_;obtain⟨c3,Yw⟩:∃c3:Bool,(c1||c2)=c3:=⟨_,rfl⟩;refine aa.b7 aw fw [(2,.v (ti r)),(3,.v (ti g)),(4,.v (.box [ti ac,ti az,ti ar,ti ag])),(5,.v (.box [ti vc,ti vs])),(8,.ptr 1009 0),(44,.v (.bool c3))] ?_ ?_
  ·cases c1<;>simp[abq]<;>simp at Yw<;>simp[Yw]
  refine aa.cond rfl (λh5=>?_) (λh5=>?_)
  ·have h5:c3=true:=by simpa using h5
   rw[h5,<-aX,<-dU]at Yw;simp only[ZbL,decide_eq_true_eq]at Yw;rw[if_pos Yw]at hR;refine aa.ab aw fw [8] ?_;simp[abr];refine aa.ret ?_;subst hR;simp[Fe]
  ·have h5:c3=false:=by simpa using h5
   rw[h5,<-aX,<-dU]at Yw;simp only[Bool.or_eq_false_iff,decide_eq_false_iff_not]at Yw;rw[if_neg (λh=>h.elim Yw.1 Yw.2)]at hR;refine aa.skip ?_;simp;refine aa.ab aw fw [8] ?_;simp[abt];refine aa.ret ?_;subst hR;simp[Fe]
@[simp] theorem Ls{a b:List bE}:aQ a=aQ b↔a=b:=⟨λh=>by have:=congrArg vM h;simpa using this,λh=>by rw[h]⟩
@[simp] theorem oW{a b:List br}:bJ a=bJ b↔a=b:=⟨λh=>by have:=congrArg lq h;simpa using this,λh=>by rw[h]⟩
@[simp] theorem Lt{a b:List Cell}:aI a=aI b↔a=b:=⟨λh=>by have:=congrArg j5 h;simpa using this,λh=>by rw[h]⟩
@[simp] theorem DL{a b:List Int}:aC a=aC b↔a=b:=⟨λh=>by have:=congrArg fu h;simpa using this,λh=>by rw[h]⟩
@[simp] theorem Py{a b:List bn}:bb a=bb b↔a=b:=⟨λh=>by have:=congrArg zL h;simpa using this,λh=>by rw[h]⟩
@[simp] theorem opsT_inj{a b:List (Int×Int)}:cT a=cT b↔a=b:=⟨λh=>by have:=congrArg xI h;simpa using this,λh=>by rw[h]⟩
@[simp] theorem colsT_inj{a b:List bD}:ba a=ba b↔a=b:=⟨λh=>by have:=congrArg fL h;simpa using this,λh=>by rw[h]⟩
@[simp] theorem Pz{l:List br}:[]=bJ l↔l=[]:=by rw[<-Pq,oW];exact eq_comm
@[simp] theorem one_valsT{a b:Int}{l:List br}:[[ti a,ti b]]=bJ l↔l=[⟨a,b⟩]:=by rw[show [[ti a,ti b]]=bJ [⟨a,b⟩]from rfl,oW];exact eq_comm
@[simp] theorem two_valsT{a b c d:Int}{l:List br}:[[ti a,ti b],[ti c,ti d]]=bJ l↔l=[⟨a,b⟩,⟨c,d⟩]:=by rw[show [[ti a,ti b],[ti c,ti d]]=bJ [⟨a,b⟩,⟨c,d⟩]from rfl,oW];exact eq_comm
@[simp] theorem aes:lq []=[]:=rfl
@[simp] theorem aet{a b:Int}:lq [[ti a,ti b]]=[⟨a,b⟩]:=rfl
@[simp] theorem aeu{a b c d:Int}:lq [[ti a,ti b],[ti c,ti d]]=[⟨a,b⟩,⟨c,d⟩]:=rfl
def lN(c:bT)(h f t:Int):Cell:=
 if h<0\/h>=c.an\/f<0\/t<f\/t>=c.aN then fc else c.cells.getD (bU c.an c.aN f.toNat t.toNat+h).toNat fc
def CO(c:bT):Prop:=0<=c.an/\c.an<=1000/\0<=c.aN/\c.aN<=1000/\c.cells.length<=1000000000000/\∀x∈c.cells,kU x.val
theorem IG:kU fc.val:=by simp[kU,fc]
theorem UT{c:bT}(hc:CO c)(h f t:Int):kU (lN c h f t).val:=by
 unfold lN;split
 ·exact IG
 ·rw[List.getD];cases e:c.cells[(bU c.an c.aN f.toNat t.toNat+h).toNat]? with
  |none=>exact IG
  |some x=>exact hc.2.2.2.2.2 x (Zaq e)
abbrev s42:DM.Spec:=cz (λts=>ts=[]) (λ_=>.agg [ti 1099511627776,ti 0,ti (-1),ti 0]) true
abbrev s25:DM.Spec:=cz (λts=>∃n st f t:Int,ts=[ti n,ti st,ti f,ti t]/\0<=n/\n<=1000/\st<=1000/\0<=f/\f<=st/\t<=1000/\f<=t) (fun|[.int _ n,.int _ st,.int _ f,.int _ t]=>ti (bU n st f.toNat t.toNat)|_=>.bool false) true
theorem okAt:ay Tryz.prog (aW [(42,s42),(25,s25)]):=by
 refine ay.cons (ay.cons ay.nil ?_) ?_
 ·rintro ts ⟨n,st,f,t,rfl,h1,h2,h3,h4,h5,h6,h7⟩;obtain⟨f,rfl⟩:=Zad h4;obtain⟨t,rfl⟩:=Zad (a:=t) (by omega);exact⟨by simpa using t25 n st f t h1 h2 h3 h5 (by omega) (by omega),λ_=>rfl⟩
 ·rintro ts rfl;exact⟨t42,λ_=>rfl⟩
theorem iL{n st:Int}{f t:Nat}(h1:0<=n)(h2:n<=1000)(h3:st<=1000)(h4:(f:Int)<=st)(h5:t<=1000)(h6:f<=t):0<=bU n st f t/\bU n st f t<=2000000000:=by
 have hb:=dQ h3 f h4;have:=cK (a:=pre st f+t-f) (A:=2000000) (b:=n) (B:=1000) (by omega) (by omega) h1 h2;unfold bU;omega
theorem t19(c:bT)(h f t:Int)(hc:CO c):aT Tryz.prog 19 [c.enc,.agg [ti h,ti f,ti t]] (.agg (lN c h f t).enc):=by
 obtain⟨cn,cs,cl⟩:=c;obtain⟨k1,k2,k3,k4,k5,k6⟩:=hc;simp only at k1 k2 k3 k4 k5 k6;obtain⟨R,hR⟩:∃R,lN ⟨cn,cs,cl⟩ h f t=R:=⟨_,rfl⟩;rw[hR];unfold lN at hR;simp only at hR;have aw:=okAt;refine c19.ok (by simp) (aK ?_);simp[bT.enc];refine aa.ab aw fw [2,3,4] ?_;simp[abu];refine aa.le (Le.aD (o:=[(1005,.box [.v (ti 0),.v (ti 0),.v (ti 0),.v (ti 0)])]) (l:=[(2,.v (.box [ti cn,ti cs,.sl (aI cl)])),(3,.v (.box [ti h,ti f,ti t])),(4,.ptr 1005 0)]) (nxt':=1200) ?_ ?_ ?_ ?_) ?_;iterate 4(·simp)
 refine aa.seq ?_;obtain⟨c1,aX⟩:∃c1:Bool,decide (h<0\/h>=cn\/f<0\/t<f\/t>=cs)=c1:=⟨_,rfl⟩;refine aa.b7 aw fw [(2,.v (.box [ti cn,ti cs,.sl (aI cl)])),(3,.v (.box [ti h,ti f,ti t])),(4,.ptr 1005 0),(34,.v (.bool c1))] ?_ ?_
 ·by_cases q1:h<0
  ·have:c1=true:=by rw[<-aX];simp[q1]
   simp[Be,q1,this]
  ·skip
   by_cases q2:h>=cn
   ·have:c1=true:=by rw[<-aX];simp[q2]
    simp[Be,q1,q2,this]
   ·skip
    by_cases q3:f<0
    ·have:c1=true:=by rw[<-aX];simp[q3]
     simp[Be,q1,q2,q3,this]
    ·skip
     by_cases q4:t<f
     ·have:c1=true:=by rw[<-aX];simp[q4]
      simp[Be,q1,q2,q3,q4,this]
     ·skip
      by_cases q5:t>=cs
      ·have:c1=true:=by rw[<-aX];simp[q5]
       simp[Be,q1,q2,q3,q4,q5,this]
      ·skip
       have:c1=false:=by rw[<-aX];simp[q1,q2,q3,q4,q5]
       simp[Be,q1,q2,q3,q4,q5,this]
 refine aa.cond rfl (λh1=>?_) (λh1=>?_)
 ·rw[h1]at aX;rw[if_pos (of_decide_eq_true aX)]at hR;subst hR;refine aa.ab aw fw [4] ?_;simp[abv];refine aa.ret ?_;simp[Ff,fc,Cell.enc]
 ·rw[h1]at aX;have aX:=of_decide_eq_false aX;rw[if_neg aX]at hR;obtain⟨f,rfl⟩:=Zad (a:=f) (by omega);obtain⟨t,rfl⟩:=Zad (a:=t) (by omega);simp only[Zai]at hR;refine aa.skip ?_;simp;have Gq:=iL (n:=cn) (st:=cs) (f:=f) (t:=t) k1 k2 k4 (by omega) (by omega) (by omega);obtain⟨x,hx⟩:∃x,bU cn cs f t+h=x:=⟨_,rfl⟩;have w1:IntKind.i64.wrap (bU cn cs f t+h)=x:=by rw[hx];exact au (by omega)
  rw[hx]at hR;refine aa.ab aw fw [2,4,5] ?_;simp[abw,and_assoc,w1];refine⟨by omega,by omega,by omega,by omega,by omega,by omega, ?_⟩;refine aa.seq ?_;refine aa.ab aw fw [2,4,5,52] ?_;simp[abx];refine aa.cond rfl (λh2=>?_) (λh2=>?_)
  ·have h2:(cl.length:Int)<=x:=by simpa using h2
   rw[List.getD,ZaS (by omega)]at hR;subst hR;refine aa.ab aw fw [4] ?_;simp[aby];refine aa.ret ?_;simp[Ff,fc,Cell.enc]
  ·have h2:¬(cl.length:Int)<=x:=by simpa using h2
   obtain⟨x,rfl⟩:=Zad (a:=x) (by omega);have sv:x<cl.length:=by omega
   refine aa.skip ?_;simp;have rr:=fq sv;have hR2:cl.getD x default=R:=by rw[<-hR];simp[List.getD,sv]
   rw[hR2]at rr;refine aa.ab aw fw [4] ?_;simp[abz,sv,rr,Cell.enc];refine aa.ret ?_;simp[Ff]
def cD(c:bT)(own:List Cell)(fr to h f t:Int):br:=if f=fr/\t=to then(own.getD h.toNat default).val else(lN c h f t).val
def YB(c:bT)(own:List Cell)(fr to h f t:Int):Prop:=CO c/\own.length<=1000000/\(f=fr/\t=to->0<=h/\h<own.length)
theorem oU{c:bT}{own:List Cell}{fr to h f t:Int}(h1:YB c own fr to h f t)(h2:∀x∈own,kU x.val):kU (cD c own fr to h f t):=by
 unfold cD;split
 ·rename_i e;have:=h1.2.2 e;exact h2 _ (bw (by omega))
 ·exact UT h1.1 _ _ _
abbrev s19:DM.Spec:=cz (λts=>∃cn cs cl h f t,ts=[.agg [ti cn,ti cs,.sl (aI cl)],.agg [ti h,ti f,ti t]]/\CO ⟨cn,cs,cl⟩) (fun|[c,.agg [.int _ h,.int _ f,.int _ t]]=>.agg [ti (lN (pR c) h f t).cost,ti (lN (pR c) h f t).size,ti (lN (pR c) h f t).ez,ti (lN (pR c) h f t).arg]|_=>.bool false) true
theorem ok19:ay Tryz.prog (aW [(19,s19)]):=by
 refine ay.cons ay.nil ?_;rintro ts ⟨cn,cs,cl,h,f,t,rfl,hc⟩;exact⟨by simpa [bT.enc,Cell.enc]using t19 ⟨cn,cs,cl⟩ h f t hc,λ_=>rfl⟩
theorem t70(c:bT)(own:List Cell)(fr to h f t:Int)(hp:YB c own fr to h f t):aT Tryz.prog 70 [c.enc,.sl (aI own),ti fr,ti to,.agg [ti h,ti f,ti t]] (.agg [ti (cD c own fr to h f t).cost,ti (cD c own fr to h f t).size]):=by
 obtain⟨cn,cs,cl⟩:=c;obtain⟨hc,hl,ho⟩:=hp;obtain⟨R,hR⟩:∃R,cD ⟨cn,cs,cl⟩ own fr to h f t=R:=⟨_,rfl⟩;rw[hR];unfold cD at hR;have aw:=ok19;refine c70.ok (by simp) (aK ?_);simp[bT.enc];refine aa.ab aw fw [1,2,3,5,9,10] ?_;simp[abA];refine aa.le (Le.aD (o:=[(1011,.box [.v (ti 0),.v (ti 0)])]) (l:=[(1,.v (.sl (aI own))),(2,.v (ti fr)),(3,.v (ti to)),(5,.v (.box [ti cn,ti cs,.sl (aI cl)])),(9,.v (.box [ti h,ti f,ti t])),(10,.ptr 1011 0)]) (nxt':=1200) ?_ ?_ ?_ ?_) ?_;iterate 4(·simp)
 refine aa.seq ?_;obtain⟨c1,aX⟩:∃c1:Bool,decide (f=fr/\t=to)=c1:=⟨_,rfl⟩;refine aa.b7 aw fw [(1,.v (.sl (aI own))),(5,.v (.box [ti cn,ti cs,.sl (aI cl)])),(9,.v (.box [ti h,ti f,ti t])),(10,.ptr 1011 0),(20,.v (.bool c1))] ?_ ?_
 ·by_cases q1:f=fr
  ·by_cases q2:t=to
   ·have:c1=true:=by rw[<-aX];simp[q1,q2]
    simp[Nw,q1,q2,this]
   ·have:c1=false:=by rw[<-aX];simp[q2]
    simp[Nw,q1,q2,this]
  ·have:c1=false:=by rw[<-aX];simp[q1]
   simp[Nw,q1,this]
 refine aa.cond rfl (λh1=>?_) (λh1=>?_)
 ·rw[h1]at aX;have aX:=of_decide_eq_true aX;rw[if_pos aX]at hR;obtain⟨g1,g2⟩:=ho aX;obtain⟨h,rfl⟩:=Zad g1;have qx:h<own.length:=by omega
  have rr:=fq qx;simp only[Zai]at hR;obtain⟨x,hx⟩:∃x,own.getD h default=x:=⟨_,rfl⟩;rw[hx]at rr hR;refine aa.ab aw fw [10] ?_;simp[abB,qx,rr,Cell.enc];refine aa.ret ?_;subst hR;simp[KL]
 ·rw[h1]at aX;have aX:=of_decide_eq_false aX;rw[if_neg aX]at hR;refine aa.skip ?_;simp;refine aa.ab aw fw [10] ?_;simp[abC,and_assoc,hc];refine aa.ret ?_;subst hR;simp[KL]
def ur(n:aH)(r:bE):Prop:=0<=r.head/\r.head<n.an/\0<=r.bF/\r.bF<=1000/\(r.kind=1\/(r.kind=2/\0<=r.a/\r.a<n.aV)\/(r.kind=3/\0<=r.a/\r.a<n.an)\/(r.kind=4/\0<=r.a/\r.a<n.an/\0<=r.b/\r.b<n.an))
def nF(n:aH):Prop:=1<=n.an/\n.an<=1000/\n.rules.length<=600/\∀r∈n.rules,ur n r
def vN(l:aM):Prop:=1<=l.aN/\l.aN<=1000/\l.aF.length<=1000000000/\∀a∈l.aF,0<=a.cost/\a.cost<=1099511627776
def NV(n:aH)(own:List Cell):Prop:=(own.length:Int)=n.an/\∀x∈own,kU x.val
def stepT(r:bE)(aF:List bn)(fr to i:Int)(x:Cell)(k:Nat):Cell:=
 if(aF.getD k default).f=fr/\(aF.getD k default).t=to/\(aF.getD k default).term=r.a then dF x (comb (r.bF+(aF.getD k default).cost) []) i k else x
def qj(r:bE)(c:bT)(own:List Cell)(fr to i:Int)(x:Cell)(k:Nat):Cell:=
 dF x (comb r.bF [cD c own fr to r.a fr (fr+k),cD c own fr to r.b (fr+k) to]) i (fr+k)
def lJ(r:bE)(l:aM)(c:bT)(own:List Cell)(fr to i:Int)(x:Cell):Cell:=
 if r.kind=1 then(if fr=to then dF x (comb r.bF []) i fr else x)
 else if r.kind=2 then(List.range l.aF.length).foldl (stepT r l.aF fr to i) x
 else if r.kind=3 then dF x (comb r.bF [cD c own fr to r.a fr to]) i fr
 else(List.range (to-fr+1).toNat).foldl (qj r c own fr to i) x
def dL(n:aH)(l:aM)(c:bT)(own:List Cell)(fr to:Int)(i:Nat):Cell:=
 lJ (n.rules.getD i default) l c own fr to i (own.getD (n.rules.getD i default).head.toNat default)
abbrev s69:DM.Spec:=cz (λts=>∃c l,ts=[ti c,.sl (bJ l)]/\(∀v∈l,kU v)/\0<=c/\c<=4000000000000/\l.length<=1000000) (fun|[.int _ c,.sl l]=>.agg [ti (comb c (lq l)).cost,ti (comb c (lq l)).size]|_=>.bool false) true
abbrev s68:DM.Spec:=cz (λts=>∃a b c d vc vs r g,ts=[.agg [ti a,ti b,ti c,ti d],.agg [ti vc,ti vs],ti r,ti g])
 (fun|[.agg [.int _ a,.int _ b,.int _ c,.int _ d],.agg [.int _ vc,.int _ vs],.int _ r,.int _ g]=>.agg [ti (dF ⟨a,b,c,d⟩ ⟨vc,vs⟩ r g).cost,ti (dF ⟨a,b,c,d⟩ ⟨vc,vs⟩ r g).size,ti (dF ⟨a,b,c,d⟩ ⟨vc,vs⟩ r g).ez,ti (dF ⟨a,b,c,d⟩ ⟨vc,vs⟩ r g).arg]|_=>.bool false) true
abbrev s70:DM.Spec:=cz (λts=>∃cn cs cl own fr to h f t,ts=[.agg [ti cn,ti cs,.sl (aI cl)],.sl (aI own),ti fr,ti to,.agg [ti h,ti f,ti t]]/\YB ⟨cn,cs,cl⟩ own fr to h f t)
 (fun|[c,.sl own,.int _ fr,.int _ to,.agg [.int _ h,.int _ f,.int _ t]]=>.agg [ti (cD (pR c) (j5 own) fr to h f t).cost,ti (cD (pR c) (j5 own) fr to h f t).size]|_=>.bool false) true
theorem okI:ay Tryz.prog (aW [(69,s69),(68,s68),(70,s70)]):=by
 refine ay.cons (ay.cons (ay.cons ay.nil ?_) ?_) ?_
 ·rintro ts ⟨cn,cs,cl,own,fr,to,h,f,t,rfl,hp⟩;exact⟨by simpa [bT.enc]using t70 ⟨cn,cs,cl⟩ own fr to h f t hp,λ_=>rfl⟩
 ·rintro ts ⟨a,b,c,d,vc,vs,r,g,rfl⟩;exact⟨by simpa [Cell.enc]using t68 ⟨a,b,c,d⟩ ⟨vc,vs⟩ r g,λ_=>rfl⟩
 ·rintro ts ⟨c,l,rfl,h1,h2,h3,h4⟩;exact⟨by simpa using t69 c l h1 h2 h3 h4,λ_=>rfl⟩
@[simp] theorem valsT_nil2{l:List br}:bJ l=[]↔l=[]:=by rw[eq_comm,Pz]
theorem vS:∀v∈([]:List br),kU v:=λv h=>by cases h
theorem t46(n:aH)(l:aM)(c:bT)(own:List Cell)(fr to i:Nat)(hn:nF n)(hl:vN l)(hc:CO c)(ho:NV n own)(hi:i<n.rules.length)(qk:fr<=to)(jd:to<=1000):
  aT Tryz.prog 46 [n.enc,l.enc,c.enc,.sl (aI own),ti fr,ti to,ti i] (.agg (dL n l c own fr to i).enc):=by
 obtain⟨r,hr⟩:∃r,n.rules.getD i default=r:=⟨_,rfl⟩;have jW:ur n r:=hn.2.2.2 r (by rw[<-hr];exact bw hi);obtain⟨x,hx⟩:∃x,own.getD r.head.toNat default=x:=⟨_,rfl⟩;obtain⟨R,hR⟩:∃R,dL n l c own fr to i=R:=⟨_,rfl⟩;rw[hR];unfold dL at hR;rw[hr,hx]at hR;obtain⟨nt,nn,ns,rules⟩:=n;obtain⟨ls,aF,fin⟩:=l;obtain⟨cn,cs,cl⟩:=c;obtain⟨rk,rh,ra,rb,rp,rg⟩:=r;obtain⟨xc,xs,xr,xg⟩:=x;obtain⟨q1,q2,q3,q4,q5⟩:=jW;obtain⟨o1,o2⟩:=ho;obtain⟨l1,l2,l3,l4⟩:=hl;obtain⟨n1,n2,n3,n4⟩:=hn;simp only at q1 q2 q3 q4 q5 o1 hr hi hx l1 l2 l3 l4 n1 n2 n3 n4;obtain⟨rh,rfl⟩:=Zad q1;simp only[Zai]at hx;have Lv:rh<own.length:=by omega
 have rr:=fW hi;rw[hr]at rr;have rx:=fq Lv;rw[hx]at rx;have qu:∀{h:Int},0<=h->h<nn->∀f t:Int,YB ⟨cn,cs,cl⟩ own fr to h f t:=λh0 h1 f t=>⟨hc,by omega,λ_=>⟨h0,by omega⟩⟩;have aw:=okI;refine c46.ok (by simp) (aK ?_);simp[aH.enc,aM.enc,bT.enc];refine aa.ab aw fw [3,4,5,6,7,8,9,14] ?_;simp[Hw];refine aa.le (Le.aD (o:=[(1015,.box [.v (ti 0),.v (ti 0),.v (ti 0),.v (ti 0)])]) (l:=[(3,.v (.sl (aI own))),(4,.v (ti fr)),(5,.v (ti to)),(6,.v (ti i)),(7,.v (.box [ti nt,ti nn,ti ns,.sl (aQ rules)])),(8,.v (.box [ti ls,.sl (bb aF),.sl (aC fin)])),(9,.v (.box [ti cn,ti cs,.sl (aI cl)])),(14,.ptr 1015 0)]) (nxt':=1200) ?_ ?_ ?_ ?_) ?_;iterate 4(·simp)
 refine aa.ab aw fw [3,4,5,6,7,8,9,14,15] ?_;simp[Nx,hi,rr,bE.enc];refine aa.le (Le.aD (o:=[(1015,.box [.v (ti 0),.v (ti 0),.v (ti 0),.v (ti 0)])]) (l:=[(3,.v (.sl (aI own))),(4,.v (ti fr)),(5,.v (ti to)),(6,.v (ti i)),(7,.v (.box [ti nt,ti nn,ti ns,.sl (aQ rules)])),(8,.v (.box [ti ls,.sl (bb aF),.sl (aC fin)])),(9,.v (.box [ti cn,ti cs,.sl (aI cl)])),(14,.ptr 1015 0),(15,.v (.box [ti rk,ti rh,ti ra,ti rb,ti rp,ti rg]))]) (nxt':=1400) ?_ ?_ ?_ ?_) ?_;iterate 4(·simp)
 refine aa.ab aw fw [3,4,5,6,7,8,9,14,15,16] ?_;simp[Ny,Lv,rx,Cell.enc];refine aa.le (Le.aD (o:=[(1015,.box [.v (ti 0),.v (ti 0),.v (ti 0),.v (ti 0)]),(1417,.box [.v (ti xc),.v (ti xs),.v (ti xr),.v (ti xg)])]) (l:=[(3,.v (.sl (aI own))),(4,.v (ti fr)),(5,.v (ti to)),(6,.v (ti i)),(7,.v (.box [ti nt,ti nn,ti ns,.sl (aQ rules)])),(8,.v (.box [ti ls,.sl (bb aF),.sl (aC fin)])),(9,.v (.box [ti cn,ti cs,.sl (aI cl)])),(14,.ptr 1015 0),(15,.v (.box [ti rk,ti rh,ti ra,ti rb,ti rp,ti rg])),(16,.ptr 1417 0)]) (nxt':=1600) ?_ ?_ ?_ ?_) ?_;iterate 4(·simp)
 refine aa.seq ?_;refine aa.ab aw fw [3,4,5,6,8,9,14,15,16,33] ?_;simp[Hx];refine aa.block ?_;refine aa.ab aw fw [3,4,5,6,8,9,14,15,16,33,70] ?_;simp[Hy];refine aa.cond rfl (λk1=>?_) (λk1=>?_)
 ·have k1:rk=1:=by simpa using k1
  rw[show rk=1 from k1]at hR;simp only[lJ,if_pos]at hR;refine aa.ab aw fw [4,6,14,15,16,74] ?_;simp[abD];refine aa.cond rfl (λk2=>?_) (λk2=>?_)
  ·have k2:(fr:Int)=to:=by simpa using k2
   rw[if_pos k2]at hR;refine aa.dc aw fw [14,16] ?_;simp[abE,and_assoc];refine⟨by omega,by omega, ?_⟩;refine aa.ab aw fw [14] ?_;simp[xx];refine aa.ret ?_;subst hR;simp[pO,Cell.enc]
  ·have k2:¬(fr:Int)=to:=by simpa using k2
   rw[if_neg k2]at hR;refine aa.skip ?_;simp;refine aa.ab aw fw [14] ?_;simp[xx];refine aa.ret ?_;subst hR;simp[pO,Cell.enc]
 ·have k1:¬rk=1:=by simpa using k1
  simp only[lJ,k1,if_false]at hR;refine aa.ab aw fw [3,4,5,6,8,9,14,15,16,33,82] ?_;simp[abF];refine aa.cond rfl (λk3=>?_) (λk3=>?_)
  ·have k3:rk=2:=by simpa using k3
   rw[if_pos k3]at hR;refine aa.ab aw fw [4,5,6,8,14,15,16,17] ?_;simp[abG];refine aa.block ?_;refine aa.loop (λy:Nat=>⟨DM.look [(4,.v (ti fr)),(5,.v (ti to)),(6,.v (ti i)),(8,.v (.box [ti ls,.sl (bb aF),.sl (aC fin)])),(14,.ptr 1015 0),(15,.v (.box [ti rk,ti rh,ti ra,ti rb,ti rp,ti rg])),(16,.ptr 1417 0),(17,.v (ti y))],cE [(1015,.box [.v (ti 0),.v (ti 0),.v (ti 0),.v (ti 0)]),(1417,.box [.v (ti ((List.range y).foldl (stepT ⟨rk,rh,ra,rb,rp,rg⟩ aF fr to i) ⟨xc,xs,xr,xg⟩).cost),.v (ti ((List.range y).foldl (stepT ⟨rk,rh,ra,rb,rp,rg⟩ aF fr to i) ⟨xc,xs,xr,xg⟩).size),.v (ti ((List.range y).foldl (stepT ⟨rk,rh,ra,rb,rp,rg⟩ aF fr to i) ⟨xc,xs,xr,xg⟩).ez),.v (ti ((List.range y).foldl (stepT ⟨rk,rh,ra,rb,rp,rg⟩ aF fr to i) ⟨xc,xs,xr,xg⟩).arg)])],2000,1000,[]⟩)
    (λy=>y<=aF.length) (λy=>aF.length-y) 0 (Le.aD ?_ ?_ ?_ ?_) (by simp) (λy hy=>?_)
   iterate 4(·simp)
   obtain⟨X,hX⟩:∃X,((List.range y).foldl (stepT ⟨rk,rh,ra,rb,rp,rg⟩ aF fr to i) ⟨xc,xs,xr,xg⟩)=X:=⟨_,rfl⟩;rw[hX];refine aa.seq ?_;refine aa.ab aw fw [4,5,6,8,14,15,16,17,88] ?_;simp[abH];refine aa.cond rfl (λbK=>?_) (λbK=>?_)
   ·have bK:y<aF.length:=by simpa using bK
    refine aa.skip ?_;simp;refine aa.seq ?_;refine aa.block ?_;have ra1:=kY bK;obtain⟨a,ha⟩:∃a,aF.getD y default=a:=⟨_,rfl⟩;rw[ha]at ra1;obtain⟨g1,g2⟩:=l4 a (by rw[<-ha];exact bw bK);obtain⟨c1,aX⟩:∃c1:Bool,decide (a.f=fr/\a.t=to/\a.term=ra)=c1:=⟨_,rfl⟩;refine aa.b7 aw fw [(4,.v (ti fr)),(5,.v (ti to)),(6,.v (ti i)),(8,.v (.box [ti ls,.sl (bb aF),.sl (aC fin)])),(14,.ptr 1015 0),(15,.v (.box [ti rk,ti rh,ti ra,ti rb,ti rp,ti rg])),(16,.ptr 1417 0),(17,.v (ti y)),(119,.v (.bool c1))] ?_ ?_
    ·by_cases q1:a.f=fr
     ·by_cases q2:a.t=to
      ·by_cases q3:a.term=ra
       ·have:c1=true:=by rw[<-aX];simp[q1,q2,q3]
        simp[Bf,bK,ra1,bn.enc,q1,q2,q3,this]
       ·have:c1=false:=by rw[<-aX];simp[q3]
        simp[Bf,bK,ra1,bn.enc,q1,q2,q3,this]
      ·have:c1=false:=by rw[<-aX];simp[q2]
       simp[Bf,bK,ra1,bn.enc,q1,q2,this]
     ·have:c1=false:=by rw[<-aX];simp[q1]
      simp[Bf,bK,ra1,bn.enc,q1,this]
    refine aa.cond rfl (λh5=>?_) (λh5=>?_)
    ·rw[h5]at aX;have aX:=of_decide_eq_true aX;have kx:stepT ⟨rk,rh,ra,rb,rp,rg⟩ aF fr to i X y=dF X (comb (rp+a.cost) []) i y:=by unfold stepT;rw[ha,if_pos aX]
     refine aa.dc aw fw [4,5,6,8,14,15,16,17] ?_;simp[Sx,bK,ra1,bn.enc,and_assoc,au (x:=rp+a.cost) (by omega)];refine⟨by omega,by omega, ?_⟩;refine aa.dc aw fw [4,5,6,8,14,15,16,17] ?_;simp[KM];rw[au (x:=(y:Int)+1) (by omega)];refine⟨y+1,Le.aD ?_ ?_ ?_ ?_,by omega,by omega⟩
     ·simp
     ·simp
     ·simp[Zax,Zat,hX,kx]
     ·simp
    ·rw[h5]at aX;have aX:=of_decide_eq_false aX;have kx:stepT ⟨rk,rh,ra,rb,rp,rg⟩ aF fr to i X y=X:=by unfold stepT;rw[ha,if_neg aX]
     refine aa.skip ?_;simp;refine aa.dc aw fw [4,5,6,8,14,15,16,17] ?_;simp[KM];rw[au (x:=(y:Int)+1) (by omega)];refine⟨y+1,Le.aD ?_ ?_ ?_ ?_,by omega,by omega⟩
     ·simp
     ·simp
     ·simp[Zax,Zat,hX,kx]
     ·simp
   ·have fg:y=aF.length:=by simp at bK;omega
    subst fg;rw[hX]at hR;refine aa.exit ?_;simp;refine aa.ab aw fw [14] ?_;simp[xx];refine aa.ret ?_;subst hR;simp[pO,Cell.enc]
  ·have k3:¬rk=2:=by simpa using k3
   rw[if_neg k3]at hR;refine aa.ab aw fw [3,4,5,6,9,14,15,16,134] ?_;simp[Sy];refine aa.cond rfl (λk4=>?_) (λk4=>?_)
   ·have k4:rk=3:=by simpa using k4
    rw[if_pos k4]at hR;have zy:=qu (h:=ra) (by omega) (by omega) fr to;have jn:=oU zy o2;obtain⟨⟨vc,vs⟩,hv⟩:∃v,cD ⟨cn,cs,cl⟩ own fr to ra fr to=v:=⟨_,rfl⟩;rw[hv]at jn hR;refine aa.ab aw fw [6,14,15,16,18,4] ?_;simp[Sz,and_assoc,zy,hv];refine aa.le (Le.aD (o:=[(1015,.box [.v (ti 0),.v (ti 0),.v (ti 0),.v (ti 0)]),(1417,.box [.v (ti xc),.v (ti xs),.v (ti xr),.v (ti xg)])]) (l:=[(4,.v (ti fr)),(6,.v (ti i)),(14,.ptr 1015 0),(15,.v (.box [ti rk,ti rh,ti ra,ti rb,ti rp,ti rg])),(16,.ptr 1417 0),(18,.v (.box [ti vc,ti vs]))]) (nxt':=2200) ?_ ?_ ?_ ?_) ?_;iterate 4(·simp)
    refine aa.dc aw fw [14,16] ?_;simp[SA,and_assoc,jn,chunk];refine⟨by omega,by omega, ?_⟩;refine aa.ab aw fw [14] ?_;simp[xx];refine aa.ret ?_;subst hR;simp[pO,Cell.enc]
   ·have k4:¬rk=3:=by simpa using k4
    rw[if_neg k4]at hR;refine aa.ab aw fw [3,4,5,6,9,14,15,16,19] ?_;simp[SB];refine aa.block ?_;refine aa.loop (λy:Nat=>⟨DM.look [(3,.v (.sl (aI own))),(4,.v (ti fr)),(5,.v (ti to)),(6,.v (ti i)),(9,.v (.box [ti cn,ti cs,.sl (aI cl)])),(14,.ptr 1015 0),(15,.v (.box [ti rk,ti rh,ti ra,ti rb,ti rp,ti rg])),(16,.ptr 1417 0),(19,.v (ti ((fr+y:Nat):Int)))],cE [(1015,.box [.v (ti 0),.v (ti 0),.v (ti 0),.v (ti 0)]),(1417,.box [.v (ti ((List.range y).foldl (qj ⟨rk,rh,ra,rb,rp,rg⟩ ⟨cn,cs,cl⟩ own fr to i) ⟨xc,xs,xr,xg⟩).cost),.v (ti ((List.range y).foldl (qj ⟨rk,rh,ra,rb,rp,rg⟩ ⟨cn,cs,cl⟩ own fr to i) ⟨xc,xs,xr,xg⟩).size),.v (ti ((List.range y).foldl (qj ⟨rk,rh,ra,rb,rp,rg⟩ ⟨cn,cs,cl⟩ own fr to i) ⟨xc,xs,xr,xg⟩).ez),.v (ti ((List.range y).foldl (qj ⟨rk,rh,ra,rb,rp,rg⟩ ⟨cn,cs,cl⟩ own fr to i) ⟨xc,xs,xr,xg⟩).arg)])],3000,1000,[]⟩)
     (λy=>fr+y<=to+1) (λy=>to+1-(fr+y)) 0 (Le.aD ?_ ?_ ?_ ?_) (by omega) (λy hy=>?_)
    iterate 4(·simp)
    obtain⟨X,hX⟩:∃X,((List.range y).foldl (qj ⟨rk,rh,ra,rb,rp,rg⟩ ⟨cn,cs,cl⟩ own fr to i) ⟨xc,xs,xr,xg⟩)=X:=⟨_,rfl⟩;rw[hX];obtain⟨m,hm⟩:∃m,fr+y=m:=⟨_,rfl⟩;rw[hm];refine aa.seq ?_;refine aa.ab aw fw [3,4,5,6,9,14,15,16,19,37] ?_;simp[SC];refine aa.cond rfl (λk5=>?_) (λk5=>?_)
    ·have k5:m<=to:=by simp at k5;omega
     refine aa.skip ?_;simp;refine aa.seq ?_;refine aa.block ?_;have hu1:=qu (h:=ra) (by omega) (by omega) fr m;have hu2:=oU hu1 o2;obtain⟨⟨uc,us⟩,hu⟩:∃v,cD ⟨cn,cs,cl⟩ own fr to ra fr m=v:=⟨_,rfl⟩;rw[hu]at hu2;refine aa.ab aw fw [3,4,5,6,9,14,15,16,19,20] ?_;simp[SD,and_assoc,hu1,hu];refine aa.le (Le.aD (o:=[(1015,.box [.v (ti 0),.v (ti 0),.v (ti 0),.v (ti 0)]),(1417,.box [.v (ti X.cost),.v (ti X.size),.v (ti X.ez),.v (ti X.arg)])]) (l:=[(3,.v (.sl (aI own))),(4,.v (ti fr)),(5,.v (ti to)),(6,.v (ti i)),(9,.v (.box [ti cn,ti cs,.sl (aI cl)])),(14,.ptr 1015 0),(15,.v (.box [ti rk,ti rh,ti ra,ti rb,ti rp,ti rg])),(16,.ptr 1417 0),(19,.v (ti m)),(20,.v (.box [ti uc,ti us]))]) (nxt':=3200) ?_ ?_ ?_ ?_) ?_;iterate 4(·simp)
     have zy:=qu (h:=rb) (by omega) (by omega) m to;have jn:=oU zy o2;obtain⟨⟨vc,vs⟩,hv⟩:∃v,cD ⟨cn,cs,cl⟩ own fr to rb m to=v:=⟨_,rfl⟩;rw[hv]at jn;refine aa.ab aw fw [3,4,5,6,9,14,15,16,19,20,21] ?_;simp[SE,and_assoc,zy,hv];refine aa.le (Le.aD (o:=[(1015,.box [.v (ti 0),.v (ti 0),.v (ti 0),.v (ti 0)]),(1417,.box [.v (ti X.cost),.v (ti X.size),.v (ti X.ez),.v (ti X.arg)])]) (l:=[(3,.v (.sl (aI own))),(4,.v (ti fr)),(5,.v (ti to)),(6,.v (ti i)),(9,.v (.box [ti cn,ti cs,.sl (aI cl)])),(14,.ptr 1015 0),(15,.v (.box [ti rk,ti rh,ti ra,ti rb,ti rp,ti rg])),(16,.ptr 1417 0),(19,.v (ti m)),(20,.v (.box [ti uc,ti us])),(21,.v (.box [ti vc,ti vs]))]) (nxt':=3400) ?_ ?_ ?_ ?_) ?_;iterate 4(·simp)
     have EB:(fr:Int)+y=m:=by omega
     have kx:qj ⟨rk,rh,ra,rb,rp,rg⟩ ⟨cn,cs,cl⟩ own fr to i X y=dF X (comb rp [⟨uc,us⟩,⟨vc,vs⟩]) i m:=by unfold qj;simp only[EB,hu,hv]
     refine aa.dc aw fw [3,4,5,6,9,14,15,16,19] ?_;simp[SF,and_assoc,hu2,jn,chunk];refine⟨by omega,by omega, ?_⟩;refine aa.dc aw fw [3,4,5,6,9,14,15,16,19] ?_;simp[SG];rw[au (x:=(m:Int)+1) (by omega)];refine⟨y+1,Le.aD ?_ ?_ ?_ ?_,by omega,by omega⟩
     ·simp
     ·simp
     ·simp[Zax,Zat,hX,kx]
     ·simp;omega
    ·have k5:y=(to-fr+1:Int).toNat:=by simp at k5;omega
     subst k5;rw[hX]at hR;refine aa.exit ?_;simp;refine aa.ab aw fw [14] ?_;simp[xx];refine aa.ret ?_;subst hR;simp[pO]
def kV(x:Cell):Prop:=kU x.val/\-1<=x.ez/\x.ez<=600/\0<=x.arg/\x.arg<=10000000000
def BK(x:Cell):Nat:=((x.cost.toNat*2199023255552+x.size.toNat)*1024+(x.ez+1).toNat)*17179869184+x.arg.toNat
def goes(x y:Cell):Prop:=kV y/\(y=x\/BK y<BK x)
theorem jE{x:Cell}{v:br}{r g:Int}(hx:kV x)(hv:kU v)(h1:0<=r)(h2:r<=600)(h3:0<=g)(h4:g<=10000000000):goes x (dF x v r g):=by
 obtain⟨xc,xs,xr,xg⟩:=x;obtain⟨vc,vs⟩:=v;obtain⟨⟨a1,a2,a3,a4⟩,a5,a6,a7,a8⟩:=hx;obtain⟨b1,b2,b3,b4⟩:=hv;simp only[]at a1 a2 a3 a4 a5 a6 a7 a8 b1 b2 b3 b4;unfold dF;split
 ·exact⟨⟨⟨a1,a2,a3,a4⟩,a5,a6,a7,a8⟩,.inl rfl⟩
 ·split
  ·rename_i h;refine⟨⟨⟨b1,b2,b3,b4⟩,by simp only;omega,by simp only;omega,by simp only;omega,by simp only;omega⟩,.inr ?_⟩;simp only[br.lt,Cell.val,br.mk.injEq]at h;simp only[BK];omega
  ·exact⟨⟨⟨a1,a2,a3,a4⟩,a5,a6,a7,a8⟩,.inl rfl⟩
theorem sL{x:Cell}(h:kV x):goes x x:=⟨h,.inl rfl⟩
theorem Lw{x y z:Cell}(h:goes x y)(k:goes y z):goes x z:=by
 refine⟨k.1, ?_⟩;rcases h.2 with rfl|h2
 ·exact k.2
 ·rcases k.2 with rfl|k2
  ·exact .inr h2
  ·exact .inr (by omega)
theorem xF{f:Cell->Nat->Cell}{N:Nat}(hf:∀x k,k<N->kV x->goes x (f x k))(x:Cell)(hx:kV x):goes x ((List.range N).foldl f x):=by
 induction N with
 |zero=>exact sL hx
 |succ N ih=>
  rw[Zax,Zat];have h1:=ih λx k hk=>hf x k (by omega);exact Lw h1 (hf _ N (by omega) h1.1)
theorem vX{n:aH}{l:aM}{c:bT}{own:List Cell}{fr to i:Nat}(hn:nF n)(hl:vN l)(hc:CO c)(ho:NV n own)(hi:i<n.rules.length)(qk:fr<=to)(jd:to<=1000)
  (hx:kV (own.getD (n.rules.getD i default).head.toNat default)):goes (own.getD (n.rules.getD i default).head.toNat default) (dL n l c own fr to i):=by
 unfold dL;obtain⟨r,hr⟩:∃r,n.rules.getD i default=r:=⟨_,rfl⟩;have jW:ur n r:=hn.2.2.2 r (by rw[<-hr];exact bw hi);rw[hr]at hx⊢;obtain⟨x,fJ⟩:∃x,own.getD r.head.toNat default=x:=⟨_,rfl⟩;rw[fJ]at hx⊢;obtain⟨q1,q2,q3,q4,q5⟩:=jW;have hi2:=hn.2.2.1;have hvp:∀h f t:Int,0<=h->h<n.an->kU (cD c own fr to h f t):=λh f t h1 h2=>oU ⟨hc,by have:=ho.1;have:=hn.2.1;omega,λ_=>⟨h1,by have:=ho.1;omega⟩⟩ ho.2;unfold lJ;split
 ·split
  ·exact jE hx (iJ vS q3 (by omega)) (by omega) (by omega) (by omega) (by omega)
  ·exact sL hx
 ·split
  ·refine xF (λx k hk hx=>?_) x hx;unfold stepT;split
   ·have:=hl.2.2.2 (l.aF.getD k default) (bw hk);have:=hl.2.2.1;exact jE hx (iJ vS (by omega) (by omega)) (by omega) (by omega) (by omega) (by omega)
   ·exact sL hx
  ·split
   ·refine jE hx (iJ (λv hv=>?_) q3 (by omega)) (by omega) (by omega) (by omega) (by omega);simp only[Zah]at hv;subst hv;exact hvp _ _ _ (by omega) (by omega)
   ·refine xF (λx k hk hx=>?_) x hx;unfold qj;refine jE hx (iJ (λv hv=>?_) q3 (by omega)) (by omega) (by omega) (by omega) (by omega);simp only[Zag,Zap,or_false]at hv;rcases hv with rfl|rfl<;>exact hvp _ _ _ (by omega) (by omega)
def jF(own:List Cell):Nat:=(own.map BK).sum
theorem PB{own:List Cell}{h:Nat}{y:Cell}(hh:h<own.length)(hy:BK y<BK (own.getD h default)):jF (own.set h y)<jF own:=by
 induction own generalizing h with
 |nil=>simp at hh
 |cons x own ih=>
  cases h with
  |zero=>simp[jF]at hy⊢;omega
  |succ h=>
   have:=ih (h:=h) (by simpa using hh) (by simpa using hy);simp[jF]at this⊢;omega
def oV(n:aH)(l:aM)(c:bT)(fr to:Int)(own:List Cell)(k:Nat):List Cell:=own.set (n.rules.getD k default).head.toNat (dL n l c own fr to k)
def kW(n:aH)(own:List Cell):Prop:=(own.length:Int)=n.an/\∀x∈own,kV x
theorem kW.ok{n:aH}{own:List Cell}(h:kW n own):NV n own:=⟨h.1,λx hx=>(h.2 x hx).1⟩
theorem BD{n:aH}{l:aM}{c:bT}{own:List Cell}{fr to k:Nat}(hn:nF n)(hl:vN l)(hc:CO c)(ho:kW n own)(hk:k<n.rules.length)(qk:fr<=to)(jd:to<=1000):
  kW n (oV n l c fr to own k)/\(dL n l c own fr to k≠own.getD (n.rules.getD k default).head.toNat default->jF (oV n l c fr to own k)<jF own):=by
 have jW:=hn.2.2.2 (n.rules.getD k default) (bw hk);have hh:(n.rules.getD k default).head.toNat<own.length:=by have:=ho.1;have:=jW.1;have:=jW.2.1;omega
 have hg:=vX hn hl hc ho.ok hk qk jd (ho.2 _ (bw hh));refine⟨⟨by simpa [oV]using ho.1,λx hx=>?_⟩,λbH=>?_⟩
 ·rcases ZaZ hx with h|rfl
  ·exact ho.2 x h
  ·exact hg.1
 ·rcases hg.2 with h|h
  ·exact absurd h bH
  ·exact PB hh h
def Lr(n:aH)(l:aM)(c:bT)(fr to:Int)(own:List Cell):Prop:=∀k,k<n.rules.length->dL n l c own fr to k=own.getD (n.rules.getD k default).head.toNat default
theorem pU(l:List Cell)(i:Nat)(x:Cell):aI (l.set i x)=(aI l).set i x.enc:=by simp[aI,ZbJ]
theorem yU:kV fc:=by simp[kV,kU,fc]
abbrev s46:DM.Spec:=cz (λts=>∃nt nn ns rules ls aF fin cn cs cl own,∃fr to i:Int,ts=[.agg [ti nt,ti nn,ti ns,.sl (aQ rules)],.agg [ti ls,.sl (bb aF),.sl (aC fin)],.agg [ti cn,ti cs,.sl (aI cl)],.sl (aI own),ti fr,ti to,ti i]/\
  nF ⟨nt,nn,ns,rules⟩/\vN ⟨ls,aF,fin⟩/\CO ⟨cn,cs,cl⟩/\NV ⟨nt,nn,ns,rules⟩ own/\0<=i/\i<rules.length/\0<=fr/\fr<=to/\to<=1000)
 (fun|[n,l,c,.sl own,.int _ fr,.int _ to,.int _ i]=>.agg [ti (dL (nY n) (um l) (pR c) (j5 own) fr to i.toNat).cost,ti (dL (nY n) (um l) (pR c) (j5 own) fr to i.toNat).size,ti (dL (nY n) (um l) (pR c) (j5 own) fr to i.toNat).ez,ti (dL (nY n) (um l) (pR c) (j5 own) fr to i.toNat).arg]|_=>.bool false) true
theorem okSp:ay Tryz.prog (aW [(46,s46),(42,s42)]):=by
 refine ay.cons (ay.cons ay.nil ?_) ?_
 ·rintro ts rfl;exact⟨t42,λ_=>rfl⟩
 ·rintro ts ⟨nt,nn,ns,rules,ls,aF,fin,cn,cs,cl,own,fr,to,i,rfl,h1,h2,h3,h4,h5,h6,h7,h8,h9⟩;obtain⟨i,rfl⟩:=Zad h5;obtain⟨fr,rfl⟩:=Zad h7;obtain⟨to,rfl⟩:=Zad (a:=to) (by omega);exact⟨by simpa [aH.enc,aM.enc,bT.enc,Cell.enc]using t46 ⟨nt,nn,ns,rules⟩ ⟨ls,aF,fin⟩ ⟨cn,cs,cl⟩ own fr to i h1 h2 h3 h4 (by simpa using h6) (by omega) (by omega),λ_=>rfl⟩
structure SM where
 own:List Cell
 more:Bool
def dv(n:aH)(l:aM)(c:bT)(fr to:Int)(own:List Cell)(y:Nat):List Cell:=(List.range y).foldl (oV n l c fr to) own
theorem nH(n:aH)(l:aM)(c:bT)(fr to:Int)(own:List Cell)(y:Nat):dv n l c fr to own (y+1)=oV n l c fr to (dv n l c fr to own y) y:=by
 simp[dv,Zax,Zat]
theorem BE{own:List Cell}{h:Nat}{x:Cell}(hx:x=own.getD h default):own.set h x=own:=by
 subst hx;apply Zbl;intro j;rw[Zbx];split
 ·rename_i e;subst e;split
  ·rename_i hl;simp[List.getD,hl]
  ·rename_i hl;rw[ZaS (by omega)]
 ·rfl
theorem sN{n:aH}{l:aM}{c:bT}{own:List Cell}{fr to:Nat}(hn:nF n)(hl:vN l)(hc:CO c)(ho:kW n own)(qk:fr<=to)(jd:to<=1000):∀y,y<=n.rules.length->
  kW n (dv n l c fr to own y)/\((dv n l c fr to own y=own/\∀k,k<y->dL n l c own fr to k=own.getD (n.rules.getD k default).head.toNat default)\/jF (dv n l c fr to own y)<jF own)
 |0,_=>⟨ho,.inl ⟨rfl,λk h=>by omega⟩⟩
 |y+1,hy=>by
  obtain⟨h1,h2⟩:=sN hn hl hc ho qk jd y (by omega);obtain⟨h3,h4⟩:=BD hn hl hc h1 (k:=y) (by omega) qk jd;rw[nH];refine⟨h3, ?_⟩;by_cases e:dL n l c (dv n l c fr to own y) fr to y=(dv n l c fr to own y).getD (n.rules.getD y default).head.toNat default
  ·have e2:oV n l c fr to (dv n l c fr to own y) y=dv n l c fr to own y:=BE e;rw[e2];rcases h2 with⟨g1,g2⟩|h2
   ·refine .inl ⟨g1,λk hk=>?_⟩;by_cases rF:k=y
    ·subst rF;rwa [g1]at e
    ·exact g2 k (by omega)
   ·exact .inr h2
  ·have:=h4 e;rcases h2 with⟨g1,g2⟩|h2
   ·rw[g1]at this⊢;exact .inr this
   ·exact .inr (by omega)
def tD(n:aH)(l:aM)(c:bT)(fr to:Int):Nat->List Cell->List Cell
 |0,own=>own
 |f+1,own=>if dv n l c fr to own n.rules.length=own then own else tD n l c fr to f (dv n l c fr to own n.rules.length)
theorem PC{n:aH}{l:aM}{c:bT}{own:List Cell}{fr to:Int}{f:Nat}{R:List Cell}(hs:dv n l c fr to own n.rules.length=own\/jF (dv n l c fr to own n.rules.length)<jF own)(h1:jF own<f)(h2:tD n l c fr to f own=R):
  (dv n l c fr to own n.rules.length≠own->jF (dv n l c fr to own n.rules.length)<jF own/\∃f,jF (dv n l c fr to own n.rules.length)<f/\tD n l c fr to f (dv n l c fr to own n.rules.length)=R)/\(dv n l c fr to own n.rules.length=own->own=R):=by
 cases f with
 |zero=>omega
 |succ f=>
  unfold tD at h2;refine⟨λbH=>?_,λe=>?_⟩
  ·rw[if_neg bH]at h2;have:=hs.resolve_left bH;exact⟨this,f,by omega,h2⟩
  ·rwa [if_pos e]at h2
def CP(n:aH):List Cell:=List.replicate n.an.toNat fc
def jm(n:aH)(l:aM)(c:bT)(fr to:Int):List Cell:=tD n l c fr to (jF (CP n)+1) (CP n)
theorem NW{n:aH}(hn:nF n):kW n (CP n):=by
 refine⟨?_,λx hx=>?_⟩
 ·have:=hn.1;simp only[CP,ZbC];omega
 ·rw[ZbH hx];exact yU
theorem IJ{n:aH}{l:aM}{c:bT}{fr to:Nat}(hn:nF n)(hl:vN l)(hc:CO c)(qk:fr<=to)(jd:to<=1000)
  (P:List Cell->Prop) (hPs:∀own k,kW n own->k<n.rules.length->P own->P (oV n l c fr to own k)):∀f own,jF own<f->kW n own->P own->kW n (tD n l c fr to f own)/\P (tD n l c fr to f own)/\Lr n l c fr to (tD n l c fr to f own)
 |0,own,h,_,_=>by omega
 |f+1,own,h,ho,hp=>by
  obtain⟨h1,h2⟩:=sN hn hl hc ho qk jd n.rules.length (Zae _);have hpw:∀y,y<=n.rules.length->P (dv n l c fr to own y):=by
   intro y;induction y with
   |zero=>intro _;exact hp
   |succ y ih=>intro hy;rw[nH];exact hPs _ _ (sN hn hl hc ho qk jd y (by omega)).1 (by omega) (ih (by omega))
  unfold tD;split
  ·rename_i e;rcases h2 with⟨_,g⟩|h2
   ·exact⟨ho,hp,g⟩
   ·rw[e]at h2;omega
  ·rename_i e;rcases h2 with⟨g,_⟩|h2
   ·exact absurd g e
   ·exact IJ hn hl hc qk jd P hPs f _ (by omega) h1 (hpw _ (Zae _))
theorem BG{n:aH}{l:aM}{c:bT}{fr to:Nat}(hn:nF n)(hl:vN l)(hc:CO c)(qk:fr<=to)(jd:to<=1000)
  (P:List Cell->Prop) (hP0:P (CP n)) (hPs:∀own k,kW n own->k<n.rules.length->P own->P (oV n l c fr to own k)):kW n (jm n l c fr to)/\P (jm n l c fr to)/\Lr n l c fr to (jm n l c fr to):=
 IJ hn hl hc qk jd P hPs _ _ (by omega) (NW hn) hP0
theorem t24(n:aH)(l:aM)(c:bT)(fr to:Nat)(hn:nF n)(hl:vN l)(hc:CO c)(qk:fr<=to)(jd:to<=1000):lQ Tryz.prog 24 [n.enc,l.enc,c.enc,ti fr,ti to] 57 4 (aI (jm n l c fr to)):=by
 obtain⟨R,hR⟩:∃R,jm n l c fr to=R:=⟨_,rfl⟩;rw[hR];obtain⟨nt,nn,ns,rules⟩:=n;obtain⟨ls,aF,fin⟩:=l;obtain⟨cn,cs,cl⟩:=c;have aw:=okSp;have h00:=NW hn;have z8:=λ(own:List Cell) (ho:kW ⟨nt,nn,ns,rules⟩ own)=>sN hn hl hc ho qk jd;have hss:=λ(own:List Cell) (ho:kW ⟨nt,nn,ns,rules⟩ own) (k:Nat) (hk:k<rules.length)=>BD hn hl hc ho (k:=k) hk qk jd;have Qp:rules.length<=600:=hn.2.2.1;have Qy:1<=nn:=hn.1;have Pu:nn<=1000:=hn.2.1;refine c24.okF (by simp) (aK ?_);simp[aH.enc,aM.enc,bT.enc];refine aa.ab aw fw [3,4,5,6,7] ?_;simp[abI];refine aa.le (Le.aD (o:=[]) (l:=[(3,.v (ti fr)),(4,.v (ti to)),(5,.v (.box [ti nt,ti nn,ti ns,.sl (aQ rules)])),(6,.v (.box [ti ls,.sl (bb aF),.sl (aC fin)])),(7,.v (.box [ti cn,ti cs,.sl (aI cl)]))]) (nxt':=1200) ?_ ?_ ?_ ?_) ?_;iterate 4(·simp)
 refine aa.ab aw fw [3,4,5,6,7,11] ?_;simp[abJ];refine aa.le (Le.aD (o:=[]) (l:=[(3,.v (ti fr)),(4,.v (ti to)),(5,.v (.box [ti nt,ti nn,ti ns,.sl (aQ rules)])),(6,.v (.box [ti ls,.sl (bb aF),.sl (aC fin)])),(7,.v (.box [ti cn,ti cs,.sl (aI cl)])),(11,.aJ)]) (nxt':=1400) ?_ ?_ ?_ ?_) ?_;iterate 4(·simp)
 refine aa.le (Le.ml (k:=11) 57 (sz:=4) (by omega) (by simp)) ?_;rw[iw];refine aa.seq ?_;refine aa.ab aw fw [3,4,5,6,7,11,12] ?_;simp[abK];refine aa.block ?_;refine aa.loop (λy:Nat=>⟨DM.look [(3,.v (ti fr)),(4,.v (ti to)),(5,.v (.box [ti nt,ti nn,ti ns,.sl (aQ rules)])),(6,.v (.box [ti ls,.sl (bb aF),.sl (aC fin)])),(7,.v (.box [ti cn,ti cs,.sl (aI cl)])),(11,.bd 1400 0),(12,.v (ti y))],cE [(1400,.arr 0 57 4 (aI (List.replicate y fc)))],1600,1000,[]⟩)
  (λy=>(y:Int)<=nn) (λy=>nn.toNat-y) 0 (Le.aD ?_ ?_ ?_ ?_) (by omega) (λy hy=>?_)
 iterate 4(·simp)
 refine aa.seq ?_;refine aa.ab aw fw [3,4,5,6,7,11,12,19] ?_;simp[abL];refine aa.cond rfl (λbK=>?_) (λbK=>?_)
 ·have bK:(y:Int)<nn:=by simpa using bK
  refine aa.skip ?_;simp;refine aa.seq ?_;refine aa.block ?_;refine aa.dc aw fw [3,4,5,6,7,11,12] ?_;simp[abM,cF,chunk];refine⟨by omega, ?_⟩;refine aa.dc aw fw [3,4,5,6,7,11,12] ?_;simp[abN];rw[au (x:=(y:Int)+1) (by omega)];refine⟨y+1,Le.aD ?_ ?_ ?_ ?_,by omega,by omega⟩
  ·simp
  ·simp
  ·simp[ZbR,aI,fc,Cell.enc]
  ·simp
 ·have fg:y=nn.toNat:=by simp at bK;omega
  subst fg;refine aa.exit ?_;simp;refine aa.seq ?_;refine aa.ab aw fw [3,4,5,6,7,11,13] ?_;simp[abO];refine aa.block ?_;refine aa.loop (λz:SM=>⟨DM.look [(3,.v (ti fr)),(4,.v (ti to)),(5,.v (.box [ti nt,ti nn,ti ns,.sl (aQ rules)])),(6,.v (.box [ti ls,.sl (bb aF),.sl (aC fin)])),(7,.v (.box [ti cn,ti cs,.sl (aI cl)])),(11,.bd 1400 0),(13,.v (.bool z.more))],cE [(1400,.arr 0 57 4 (aI z.own))],3000,1000,[]⟩)
   (λz=>kW ⟨nt,nn,ns,rules⟩ z.own/\(z.more=true->∃f,jF z.own<f/\tD ⟨nt,nn,ns,rules⟩ ⟨ls,aF,fin⟩ ⟨cn,cs,cl⟩ fr to f z.own=R)/\(z.more=false->z.own=R)) (λz=>2*jF z.own+(if z.more then 1 else 0)) ⟨CP ⟨nt,nn,ns,rules⟩,true⟩ (Le.aD ?_ ?_ ?_ ?_) (⟨h00,λ_=>⟨_,ZbW _,hR⟩,λh=>by cases h⟩) (λz hy=>?_)
  ·simp
  ·simp
  ·simp[CP]
  ·simp
  obtain⟨own,more⟩:=z;obtain⟨hz1,Yq,YI⟩:=hy;simp only at hz1 Yq YI⊢;refine aa.seq ?_;refine aa.ab aw fw [3,4,5,6,7,11,26] ?_;simp[abP];refine aa.cond rfl (λhm=>?_) (λhm=>?_)
  ·have hm:more=true:=by simpa using hm
   subst hm;obtain⟨f,hf1,YJ⟩:=Yq rfl;refine aa.skip ?_;simp;refine aa.block ?_;refine aa.ab aw fw [3,4,5,6,7,11,13] ?_;simp[abQ];refine aa.ab aw fw [3,4,5,6,7,11,13,14] ?_;simp[abR];refine aa.block ?_;refine aa.loop (λy:Nat=>⟨DM.look [(3,.v (ti fr)),(4,.v (ti to)),(5,.v (.box [ti nt,ti nn,ti ns,.sl (aQ rules)])),(6,.v (.box [ti ls,.sl (bb aF),.sl (aC fin)])),(7,.v (.box [ti cn,ti cs,.sl (aI cl)])),(11,.bd 1400 0),(13,.v (.bool (decide (dv ⟨nt,nn,ns,rules⟩ ⟨ls,aF,fin⟩ ⟨cn,cs,cl⟩ fr to own y≠own)))),(14,.v (ti y))],cE [(1400,.arr 0 57 4 (aI (dv ⟨nt,nn,ns,rules⟩ ⟨ls,aF,fin⟩ ⟨cn,cs,cl⟩ fr to own y)))],4000,1000,[]⟩)
    (λy=>y<=rules.length) (λy=>rules.length-y) 0 (Le.aD ?_ ?_ ?_ ?_) (by simp) (λy XD=>?_)
   ·simp
   ·simp[dv]
   ·simp[dv]
   ·simp[dv]
   obtain⟨O,hO⟩:∃O,dv ⟨nt,nn,ns,rules⟩ ⟨ls,aF,fin⟩ ⟨cn,cs,cl⟩ fr to own y=O:=⟨_,rfl⟩;obtain⟨pE,Nd⟩:=z8 own hz1 y XD;rw[hO]at pE Nd;obtain⟨m1,wH⟩:∃m1:Bool,decide (O≠own)=m1:=⟨_,rfl⟩;rw[hO,wH];refine aa.seq ?_;refine aa.ab aw fw [3,4,5,6,7,11,13,14,31] ?_;simp[SH];refine aa.cond rfl (λbK=>?_) (λbK=>?_)
   ·have bK:y<rules.length:=by simpa using bK
    refine aa.skip ?_;simp;refine aa.seq ?_;refine aa.block ?_;obtain⟨r,hr⟩:∃r,rules.getD y default=r:=⟨_,rfl⟩;have jW:ur ⟨nt,nn,ns,rules⟩ r:=hn.2.2.2 r (by rw[<-hr];exact bw bK);have rr:=fW bK;rw[hr]at rr;obtain⟨⟨ic,iz,ir,ig⟩,hI⟩:∃q,dL ⟨nt,nn,ns,rules⟩ ⟨ls,aF,fin⟩ ⟨cn,cs,cl⟩ O fr to y=q:=⟨_,rfl⟩;refine aa.ab aw fw [3,4,5,6,7,11,13,14,15] ?_;simp[SI,and_assoc,hn,hl,hc,pE.ok,hI];refine⟨by omega,by omega,by omega, ?_⟩;refine aa.le (Le.aD (o:=[(1400,.arr 0 57 4 (aI O))]) (l:=[(3,.v (ti fr)),(4,.v (ti to)),(5,.v (.box [ti nt,ti nn,ti ns,.sl (aQ rules)])),(6,.v (.box [ti ls,.sl (bb aF),.sl (aC fin)])),(7,.v (.box [ti cn,ti cs,.sl (aI cl)])),(11,.bd 1400 0),(13,.v (.bool m1)),(14,.v (ti y)),(15,.v (.box [ti ic,ti iz,ti ir,ti ig]))]) (nxt':=4400) ?_ ?_ ?_ ?_) ?_;iterate 4(·simp)
    obtain⟨rk,rh,ra,rb,rp,rg⟩:=r;obtain⟨q1,q2,q3,q4,q5⟩:=jW;simp only at q1 q2;obtain⟨rh,rfl⟩:=Zad q1;have Lv:rh<O.length:=by have:=pE.1;simp only at this;omega
    have rx:=fq Lv;obtain⟨⟨xc,xs,xr,xg⟩,hx⟩:∃x,O.getD rh default=x:=⟨_,rfl⟩;rw[hx]at rx;obtain⟨c1,aX⟩:∃c1:Bool,decide ((⟨ic,iz,ir,ig⟩:Cell)≠⟨xc,xs,xr,xg⟩)=c1:=⟨_,rfl⟩;refine aa.b7 aw fw [(3,.v (ti fr)),(4,.v (ti to)),(5,.v (.box [ti nt,ti nn,ti ns,.sl (aQ rules)])),(6,.v (.box [ti ls,.sl (bb aF),.sl (aC fin)])),(7,.v (.box [ti cn,ti cs,.sl (aI cl)])),(11,.bd 1400 0),(13,.v (.bool m1)),(14,.v (ti y)),(15,.v (.box [ti ic,ti iz,ti ir,ti ig])),(52,.v (.bool c1))] ?_ ?_
    ·simp[SJ,bK,rr,bE.enc,Lv,rx,Cell.enc];simp at aX;exact aX
    refine aa.cond rfl (λh5=>?_) (λh5=>?_)
    ·rw[h5]at aX;have aX:=of_decide_eq_true aX;have kx:oV ⟨nt,nn,ns,rules⟩ ⟨ls,aF,fin⟩ ⟨cn,cs,cl⟩ fr to O y=O.set rh ⟨ic,iz,ir,ig⟩:=by unfold oV;simp only[hI,hr,Zai]
     have yV:dv ⟨nt,nn,ns,rules⟩ ⟨ls,aF,fin⟩ ⟨cn,cs,cl⟩ fr to own (y+1)=O.set rh ⟨ic,iz,ir,ig⟩:=by rw[nH,hO,kx]
     have bH:¬dv ⟨nt,nn,ns,rules⟩ ⟨ls,aF,fin⟩ ⟨cn,cs,cl⟩ fr to own (y+1)=own:=by
      intro e;have h4:=(hss O pE y bK).2 (by simp only[hI,hr,Zai,hx];exact aX);rw[kx,<-yV,e]at h4;rcases Nd with h|h
      ·rw[h.1]at h4;omega
      ·omega
     refine aa.dc aw fw [3,4,5,6,7,11,13,14] ?_;simp[SK,bK,rr,bE.enc,Lv,rx,Cell.enc];refine aa.dc aw fw [3,4,5,6,7,11,13,14] ?_;simp[KO];rw[au (x:=(y:Int)+1) (by omega)];refine⟨y+1,Le.aD ?_ ?_ ?_ ?_,by omega,by omega⟩
     ·simp
     ·simp
     ·simp[yV,pU,Cell.enc]
     ·simp;simpa using bH
    ·rw[h5]at aX;have aX:=Classical.not_not.1 (of_decide_eq_false aX);have yV:dv ⟨nt,nn,ns,rules⟩ ⟨ls,aF,fin⟩ ⟨cn,cs,cl⟩ fr to own (y+1)=O:=by rw[nH,hO];unfold oV;simp only[hI,hr,Zai];exact BE (by rw[hx];exact aX)
     have bH:=wH;rw[<-yV]at bH;refine aa.skip ?_;simp;refine aa.dc aw fw [3,4,5,6,7,11,13,14] ?_;simp[KO];rw[au (x:=(y:Int)+1) (by omega)];refine⟨y+1,Le.aD ?_ ?_ ?_ ?_,by omega,by omega⟩
     ·simp
     ·simp
     ·simp[yV,pU,Cell.enc]
     ·simp;simpa using bH
   ·have w7:y=rules.length:=by simp at bK;omega
    subst w7;have De:=PC ((z8 own hz1 _ (Zae _)).2.imp And.left id) hf1 YJ;simp only[hO]at De;have hdec:2*jF O+(if m1 then 1 else 0)<2*jF own+1:=by
     by_cases e:O=own
     ·have EB:m1=false:=by rw[<-wH];simp[e]
      subst EB;rw[e];simp
     ·have:=(De.1 e).1;cases m1<;>simp<;>omega
    refine aa.exit ?_;simp;refine⟨⟨O,m1⟩,Le.aD ?_ ?_ ?_ ?_,⟨pE,λh=>(De.1 (of_decide_eq_true (wH.trans h))).2,λh=>by have e:=Classical.not_not.1 (of_decide_eq_false (wH.trans h));simp only;rw[e];exact De.2 e⟩,by simpa using hdec⟩;iterate 3(·simp)
    ·simp
  ·have hm:more=false:=by simpa using hm
   subst hm;have YI:=YI rfl;subst YI;refine aa.exit ?_;simp;refine aa.ab aw fw [10] ?_;simp[SL];refine aa.ret ?_;exact .inr ⟨1400,0,by simp,by simp⟩
theorem vY(l:List Cell):gj.gI (aI l).flatten=true:=by
 induction l with
 |nil=>rfl
 |cons x l ih=>simpa [aI,Cell.enc,gj.gI,gj]using ih
theorem BH{st:Int}{f k:Nat}(h:(k:Int)<=st)(hf:f<=k):pre st f<=pre st k:=by
 induction k with
 |zero=>
   obtain rfl:f=0:=by omega
   omega
 |succ k ih=>
  by_cases e:f=k+1
  ·subst e;omega
  ·have:=ih (by omega) (by omega);simp only[pre];omega
theorem FE(st:Int):∀n:Nat,2*pre st n=n*(2*st-n+1)
 |0=>by simp[pre]
 |n+1=>by
  have:=FE st n;simp only[pre];have e:2*(pre st n+st-n)=2*pre st n+2*st-2*n:=by omega
  rw[e,this]
  push_cast
  grind
theorem iK{nn st:Int}(h:0<=st):cQ nn st=nn*pre st st.toNat:=by
 unfold cQ;have h2:=FE st st.toNat;rw[show((st.toNat:Nat):Int)=st by omega]at h2;have e:nn*st*(st+1)=2*(nn*pre st st.toNat):=by grind
 rw[e];omega
theorem oT{nn st:Int}{f t:Nat}(h1:0<nn)(h3:(t:Int)<st)(h4:f<=t){i:Int}(hi:i<nn):bU nn st f t+i<cQ nn st:=by
 rw[iK (by omega)];have h5:=BH (st:=st) (f:=f+1) (k:=st.toNat) (by omega) (by omega);simp only[pre]at h5;have h6:(pre st f+t-f+1)*nn<=pre st st.toNat*nn:=Zb0 (by omega) (by omega);unfold bU;rw[ZcJ nn];have:(pre st f+t-f+1)*nn=(pre st f+t-f)*nn+nn:=by grind
 omega
def mm(cells own:List Cell)(at':Nat)(y:Nat):List Cell:=(List.range y).foldl (λcs i=>cs.set (at'+i) (own.getD i default)) cells
theorem mz(cells own:List Cell)(at' y:Nat):mm cells own at' (y+1)=(mm cells own at' y).set (at'+y) (own.getD y default):=by simp[mm,Zax,Zat]
@[simp] theorem vT(cells own:List Cell)(at' y:Nat):(mm cells own at' y).length=cells.length:=by
 induction y with
 |zero=>rfl
 |succ y ih=>rw[mz,Zcn,ih]
theorem U1{cells own:List Cell}{at' y:Nat}{x:Cell}(h:x∈mm cells own at' y)(hy:y<=own.length):x∈cells\/x∈own:=by
 induction y with
 |zero=>exact .inl h
 |succ y ih=>
  rw[mz]at h;rcases ZaZ h with h|rfl
  ·exact ih h (by omega)
  ·exact .inr (bw (by omega))
def rY(n:aH)(l:aM)(len:Nat)(cells:List Cell)(f:Nat):List Cell:=
 mm cells (jm n l ⟨n.an,l.aN,cells⟩ f ((f:Int)+len)) (bU n.an l.aN f (f+len)).toNat n.an.toNat
def ID(n:aH)(l:aM)(cells:List Cell)(len:Nat):List Cell:=(List.range (l.aN.toNat-len)).foldl (rY n l len) cells
def fQ(n:aH)(l:aM):List Cell:=(List.range l.aN.toNat).foldl (ID n l) (List.replicate (cQ n.an l.aN).toNat ⟨0,0,0,0⟩)
def bR(n:aH)(l:aM):bT:=⟨n.an,l.aN,fQ n l⟩
abbrev s23:DM.Spec:=cz (λts=>∃n s:Int,ts=[ti n,ti s]/\0<=n/\n<=1000000/\0<=s/\s<=1000000) (fun|[.int _ n,.int _ s]=>ti (cQ n s)|_=>.bool false) true
abbrev s24:DM.Spec:=yE (λts=>∃nt nn ns rules ls aF fin cn cs cl,∃fr to:Int,ts=[.agg [ti nt,ti nn,ti ns,.sl (aQ rules)],.agg [ti ls,.sl (bb aF),.sl (aC fin)],.agg [ti cn,ti cs,.sl (aI cl)],ti fr,ti to]/\
  nF ⟨nt,nn,ns,rules⟩/\vN ⟨ls,aF,fin⟩/\CO ⟨cn,cs,cl⟩/\0<=fr/\fr<=to/\to<=1000)
 (fun|[n,l,c,.int _ fr,.int _ to]=>aI (jm (nY n) (um l) (pR c) fr to)|_=>[]) 57 4
theorem okB:ay Tryz.prog (aW [(24,s24),(23,s23),(25,s25)]):=by
 refine ay.Rz (ay.cons (ay.cons ay.nil ?_) ?_) ?_
 ·rintro ts ⟨n,st,f,t,rfl,h1,h2,h3,h4,h5,h6,h7⟩;obtain⟨f,rfl⟩:=Zad h4;obtain⟨t,rfl⟩:=Zad (a:=t) (by omega);exact⟨by simpa using t25 n st f t h1 h2 h3 h5 (by omega) (by omega),λ_=>rfl⟩
 ·rintro ts ⟨n,s,rfl,h1,h2,h3,h4⟩;exact⟨by simpa using t23 n s h1 h2 h3 h4,λ_=>rfl⟩
 ·rintro ts ⟨nt,nn,ns,rules,ls,aF,fin,cn,cs,cl,fr,to,rfl,h1,h2,h3,h4,h5,h6⟩;obtain⟨fr,rfl⟩:=Zad h4;obtain⟨to,rfl⟩:=Zad (a:=to) (by omega);exact⟨by simpa [aH.enc,aM.enc,bT.enc]using t24 ⟨nt,nn,ns,rules⟩ ⟨ls,aF,fin⟩ ⟨cn,cs,cl⟩ fr to h1 h2 h3 (by omega) (by omega),vY _⟩
theorem vU{n:aH}{l:aM}{c:bT}{fr to:Nat}(hn:nF n)(hl:vN l)(hc:CO c)(qk:fr<=to)(jd:to<=1000):kW n (jm n l c fr to):=
 (BG hn hl hc qk jd (λ_=>True) trivial λ_ _ _ _ _=>trivial).1
def fM(n:aH)(l:aM)(cells:List Cell):Prop:=(cells.length:Int)=cQ n.an l.aN/\∀x∈cells,kU x.val
theorem fM.ok{n:aH}{l:aM}{cells:List Cell}(hn:nF n)(hl:vN l)(h:fM n l cells):CO ⟨n.an,l.aN,cells⟩:=by
 have h1:=hn.1;have h2:=hn.2.1;have h3:=hl.1;have h4:=hl.2.1;refine⟨by simp only;omega,h2,by simp only;omega,h4, ?_,h.2⟩;have:=iK (nn:=n.an) (st:=l.aN) (by omega);have hb:=(dQ h4 l.aN.toNat (by omega));have:=cK (a:=n.an) (A:=1000) (b:=pre l.aN l.aN.toNat) (B:=1000000) (by omega) (by omega) hb.1 (by omega);have:=h.1;simp only;omega
theorem fM.step{n:aH}{l:aM}{cells:List Cell}(hn:nF n)(hl:vN l)(h:fM n l cells){f len y:Nat}(qk:f+len<=1000)(hy:y<=n.an.toNat)(a:Nat):fM n l (mm cells (jm n l ⟨n.an,l.aN,cells⟩ f ((f:Int)+len)) a y):=by
 have ho:=vU hn hl (h.ok hn hl) (fr:=f) (to:=f+len) (by omega) qk;rw[show((f+len:Nat):Int)=(f:Int)+len by omega]at ho;refine⟨by rw[vT];exact h.1,λx hx=>?_⟩;rcases U1 hx (by have:=ho.1;omega)with hx|hx
 ·exact h.2 x hx
 ·exact(ho.2 x hx).1
theorem vV{n:aH}{l:aM}{cells:List Cell}(hn:nF n)(hl:vN l)(h:fM n l cells){len:Nat}:∀k,(k+len:Nat)<=1001->fM n l ((List.range k).foldl (rY n l len) cells)
 |0,_=>h
 |k+1,hk=>by
  rw[Zax,Zat];exact(vV hn hl h k (by omega)).step hn hl (by omega) (Zae _) _
theorem U2{n:aH}{l:aM}(hn:nF n)(hl:vN l):fM n l (List.replicate (cQ n.an l.aN).toNat ⟨0,0,0,0⟩):=by
 have h4:=hl.2.1;have hb:=(dQ h4 l.aN.toNat (by have:=hl.1;omega));have:=ZbU (a:=n.an) (by have:=hn.1;omega) hb.1;have:=iK (nn:=n.an) (st:=l.aN) (by have:=hl.1;omega);refine⟨by rw[ZbC];omega,λx hx=>?_⟩;rw[ZbH hx];simp[kU]
theorem vP{n:aH}{l:aM}(hn:nF n)(hl:vN l):∀k:Nat,(k:Int)<=l.aN->fM n l ((List.range k).foldl (ID n l) (List.replicate (cQ n.an l.aN).toNat ⟨0,0,0,0⟩)):=by
 intro k;induction k with
 |zero=>intro _;exact U2 hn hl
 |succ k ih=>
  intro hk;rw[Zax,Zat];exact vV hn hl (ih (by omega)) _ (by have:=hl.2.1;omega)
theorem t11(n:aH)(l:aM)(hn:nF n)(hl:vN l):aT Tryz.prog 11 [n.enc,l.enc] (bR n l).enc:=by
 obtain⟨R,hR⟩:∃R,fQ n l=R:=⟨_,rfl⟩;have xC:bR n l=⟨n.an,l.aN,R⟩:=by rw[<-hR];rfl
 rw[xC];unfold fQ at hR;have h0:=U2 hn hl;have cU:=vP hn hl;have me:=λcells (h:fM n l cells) len=>vV hn hl h (len:=len);have kx:=λcells (h:fM n l cells) f len y=>h.step hn hl (f:=f) (len:=len) (y:=y);have aG:=λcells (h:fM n l cells)=>h.ok hn hl;obtain⟨nt,nn,ns,rules⟩:=n;obtain⟨ls,aF,fin⟩:=l;have aw:=okB;have Qy:1<=nn:=hn.1;have Pu:nn<=1000:=hn.2.1;have wJ:1<=ls:=hl.1;have qx:ls<=1000:=hl.2.1;simp only at hR h0 cU me kx aG;have tT:0<=cQ nn ls/\cQ nn ls<=1000000000:=by
  have:=(aG _ h0).2.2.2.2.1;have:=h0.1;simp only at*
  have:=iK (nn:=nn) (st:=ls) (by omega);have hb:=(dQ qx ls.toNat (by omega));have:=cK (a:=nn) (A:=1000) (b:=pre ls ls.toNat) (B:=1000000) (by omega) (by omega) hb.1 (by omega);omega
 have aw:=okB;refine c11.ok (by simp) (aK ?_);simp[aH.enc,aM.enc,bT.enc];refine aa.ab aw fw [2,3,4] ?_;simp[abS];refine aa.le (Le.aD (o:=[(1005,.box [.v (ti 0),.v (ti 0),.aJ])]) (l:=[(2,.v (.box [ti nt,ti nn,ti ns,.sl (aQ rules)])),(3,.v (.box [ti ls,.sl (bb aF),.sl (aC fin)])),(4,.ptr 1005 0)]) (nxt':=1200) ?_ ?_ ?_ ?_) ?_;iterate 4(·simp)
 refine aa.ab aw fw [2,3,4,5] ?_;simp[abT,and_assoc,cF];repeat (refine⟨by omega, ?_⟩)
 refine aa.le (Le.aD (o:=[(1005,.box [.v (ti 0),.v (ti 0),.aJ]),(1206,.box [.v (ti nn),.v (ti ls),.bd 1221 0]),(1221,.arr 0 57 4 (aI ((List.replicate (cQ nn ls).toNat ⟨0,0,0,0⟩))))]) (l:=[(2,.v (.box [ti nt,ti nn,ti ns,.sl (aQ rules)])),(3,.v (.box [ti ls,.sl (bb aF),.sl (aC fin)])),(4,.ptr 1005 0),(5,.ptr 1206 0)]) (nxt':=1400) ?_ ?_ ?_ ?_) ?_
 ·simp
 ·simp
 ·simp[aI,Cell.enc]
 ·simp
 refine aa.seq ?_;refine aa.ab aw fw [2,3,4,5,6] ?_;simp[abU];refine aa.block ?_;refine aa.loop (λa:Nat=>⟨DM.look [(2,.v (.box [ti nt,ti nn,ti ns,.sl (aQ rules)])),(3,.v (.box [ti ls,.sl (bb aF),.sl (aC fin)])),(4,.ptr 1005 0),(5,.ptr 1206 0),(6,.v (ti a))],cE [(1005,.box [.v (ti 0),.v (ti 0),.aJ]),(1206,.box [.v (ti nn),.v (ti ls),.bd 1221 0]),(1221,.arr 0 57 4 (aI ((List.range a).foldl (ID ⟨nt,nn,ns,rules⟩ ⟨ls,aF,fin⟩) (List.replicate (cQ nn ls).toNat ⟨0,0,0,0⟩))))],2000,1000,[]⟩)
  (λa=>(a:Int)<=ls) (λa=>ls.toNat-a) 0 (Le.aD ?_ ?_ ?_ ?_) (by omega) (λa hy=>?_)
 iterate 4(·simp)
 obtain⟨A,hA⟩:∃A,(List.range a).foldl (ID ⟨nt,nn,ns,rules⟩ ⟨ls,aF,fin⟩) (List.replicate (cQ nn ls).toNat ⟨0,0,0,0⟩)=A:=⟨_,rfl⟩;have hA1:=cU a hy;rw[hA]at hA1;rw[hA];refine aa.seq ?_;refine aa.ab aw fw [2,3,4,5,6,25] ?_;simp[abV];refine aa.cond rfl (λbK=>?_) (λbK=>?_)
 ·have bK:(a:Int)<ls:=by simpa using bK
  refine aa.skip ?_;simp;refine aa.seq ?_;refine aa.block ?_;refine aa.ab aw fw [2,3,4,5,6,7] ?_;simp[abW];refine aa.block ?_;refine aa.loop (λb:Nat=>⟨DM.look [(2,.v (.box [ti nt,ti nn,ti ns,.sl (aQ rules)])),(3,.v (.box [ti ls,.sl (bb aF),.sl (aC fin)])),(4,.ptr 1005 0),(5,.ptr 1206 0),(6,.v (ti a)),(7,.v (ti b))],cE [(1005,.box [.v (ti 0),.v (ti 0),.aJ]),(1206,.box [.v (ti nn),.v (ti ls),.bd 1221 0]),(1221,.arr 0 57 4 (aI ((List.range b).foldl (rY ⟨nt,nn,ns,rules⟩ ⟨ls,aF,fin⟩ a) A)))],3000,1000,[]⟩)
   (λb=>(b:Int)+a<=ls) (λb=>ls.toNat-a-b) 0 (Le.aD ?_ ?_ ?_ ?_) (by simp;omega) (λb hb=>?_)
  iterate 4(·simp)
  obtain⟨B,hB⟩:∃B,(List.range b).foldl (rY ⟨nt,nn,ns,rules⟩ ⟨ls,aF,fin⟩ a) A=B:=⟨_,rfl⟩;have hB1:=me A hA1 a b (by omega);rw[hB]at hB1;rw[hB];refine aa.seq ?_;refine aa.ab aw fw [2,3,4,5,6,7,33] ?_;simp[abX,au (x:=(b:Int)+a) (by omega)];refine aa.cond rfl (λYK=>?_) (λYK=>?_)
  ·have YK:(b:Int)+a<ls:=by simpa using YK
   refine aa.skip ?_;simp;refine aa.seq ?_;refine aa.block ?_;have w1:IntKind.i64.wrap ((b:Int)+a)=(b:Int)+a:=au (by omega);obtain⟨own,eX⟩:∃q,jm ⟨nt,nn,ns,rules⟩ ⟨ls,aF,fin⟩ ⟨nn,ls,B⟩ b ((b:Int)+a)=q:=⟨_,rfl⟩;have hokB:=aG B hB1;have YL:=vU hn hl hokB (fr:=b) (to:=b+a) (by omega) (by omega);rw[show((b+a:Nat):Int)=(b:Int)+a by omega,eX]at YL;have hol:(own.length:Int)=nn:=YL.1;refine aa.iH aw fw (rs:=KP) (.inr ⟨_,rfl⟩) (by kernel_rfl) [2,3,4,5,6,7,8] ?_;simp[KP,and_assoc,w1,hn,hl,hokB,eX];repeat (refine⟨by omega, ?_⟩)
   refine aa.le (Le.aD (o:=[(1005,.box [.v (ti 0),.v (ti 0),.aJ]),(1206,.box [.v (ti nn),.v (ti ls),.bd 1221 0]),(1221,.arr 0 57 4 (aI (B)))]) (l:=[(2,.v (.box [ti nt,ti nn,ti ns,.sl (aQ rules)])),(3,.v (.box [ti ls,.sl (bb aF),.sl (aC fin)])),(4,.ptr 1005 0),(5,.ptr 1206 0),(6,.v (ti a)),(7,.v (ti b)),(8,.v (.sl (aI own)))]) (nxt':=3400) ?_ ?_ ?_ ?_) ?_;iterate 4(·simp)
   obtain⟨gD,dy⟩:∃q,bU nn ls b (b+a)=q:=⟨_,rfl⟩;have Gq:=iL (n:=nn) (st:=ls) (f:=b) (t:=b+a) (by omega) Pu qx (by omega) (by omega) (by omega);have UK:=λ(i:Int) (hi:i<nn)=>oT (nn:=nn) (st:=ls) (f:=b) (t:=b+a) (by omega) (by omega) (by omega) hi;rw[dy]at Gq UK;obtain⟨gD,rfl⟩:=Zad Gq.1;have e1:((b:Int)+a).toNat=b+a:=by omega
   have U3:rY ⟨nt,nn,ns,rules⟩ ⟨ls,aF,fin⟩ a B b=mm B own gD own.length:=by unfold rY;simp only[eX,dy,Zai];rw[show nn.toNat=own.length by omega]
   refine aa.ab aw fw [2,3,4,5,6,7,8,9] ?_;simp[abY,and_assoc,w1,e1,dy];repeat (refine⟨by omega, ?_⟩)
   refine aa.ab aw fw [2,3,4,5,6,7,8,9,10] ?_;simp[abZ];refine aa.block ?_;refine aa.loop (λy:Nat=>⟨DM.look [(2,.v (.box [ti nt,ti nn,ti ns,.sl (aQ rules)])),(3,.v (.box [ti ls,.sl (bb aF),.sl (aC fin)])),(4,.ptr 1005 0),(5,.ptr 1206 0),(6,.v (ti a)),(7,.v (ti b)),(8,.v (.sl (aI own))),(9,.v (ti gD)),(10,.v (ti y))],cE [(1005,.box [.v (ti 0),.v (ti 0),.aJ]),(1206,.box [.v (ti nn),.v (ti ls),.bd 1221 0]),(1221,.arr 0 57 4 (aI (mm B own gD y)))],4000,1000,[]⟩)
    (λy=>y<=own.length) (λy=>own.length-y) 0 (Le.aD ?_ ?_ ?_ ?_) (by simp) (λy XD=>?_)
   ·simp
   ·simp
   ·simp[mm]
   ·simp
   refine aa.seq ?_;refine aa.ab aw fw [2,3,4,5,6,7,8,9,10,56] ?_;simp[ab0];refine aa.cond rfl (λh9=>?_) (λh9=>?_)
   ·have h9:y<own.length:=by simpa using h9
    refine aa.skip ?_;simp;refine aa.seq ?_;refine aa.block ?_;have ro:=fq h9;obtain⟨x,hx⟩:∃x,own.getD y default=x:=⟨_,rfl⟩;rw[hx]at ro;have Nh:(B.length:Int)=cQ nn ls:=hB1.1;have cV:=UK y (by omega);have zp:gD+y<B.length:=by omega
    have rz:=fq (l:=mm B own gD y) (y:=gD+y) (by simpa using zp);rw[show((gD+y:Nat):Int)=(gD:Int)+y by omega]at rz;have e2:((gD:Int)+y).toNat=gD+y:=by omega
    have w2:IntKind.i64.wrap ((gD:Int)+y)=((gD+y:Nat):Int):=by rw[au (by omega)];omega
    refine aa.dc aw fw [2,3,4,5,6,7,8,9,10] ?_;simp[SN,w2,h9,ro,Cell.enc,zp,rz,e2];repeat (refine⟨by omega, ?_⟩)
    refine aa.dc aw fw [2,3,4,5,6,7,8,9,10] ?_;simp[SO];rw[au (x:=(y:Int)+1) (by omega)];refine⟨y+1,Le.aD ?_ ?_ ?_ ?_,by omega,by omega⟩
    ·simp
    ·simp
    ·simp[mz,pU,-List.getD_eq_getElem?_getD,hx,Cell.enc]
    ·simp
   ·have w7:y=own.length:=by simp at h9;omega
    subst w7;refine aa.exit ?_;simp;refine aa.dc aw fw [2,3,4,5,6,7] ?_;simp[SP];rw[au (x:=(b:Int)+1) (by omega)];refine⟨b+1,Le.aD ?_ ?_ ?_ ?_,by omega,by omega⟩
    ·simp
    ·simp
    ·simp[Zax,Zat,hB,U3]
    ·simp
  ·have fg:b=ls.toNat-a:=by simp at YK;omega
   subst fg;refine aa.exit ?_;simp;refine aa.dc aw fw [2,3,4,5,6] ?_;simp[SQ];rw[au (x:=(a:Int)+1) (by omega)];refine⟨a+1,Le.aD ?_ ?_ ?_ ?_,by omega,by omega⟩
   ·simp
   ·simp
   ·simp[Zax,Zat,hA,ID,hB]
   ·simp
 ·have fg:a=ls.toNat:=by simp at bK;omega
  subst fg;rw[hR]at hA;subst hA;refine aa.exit ?_;simp;refine aa.ab aw fw [4] ?_;simp[SR];refine aa.ret ?_;simp[SS]
def j6(h f t cf co cn st:Int):Prop:=h<0\/f<0\/t<f\/t>=st\/cf<0\/co<0\/cn<0\/cn>60\/cf>(st-1)/2\/co>(st-1)/2-cf
instance(h f t cf co cn st:Int):Decidable (j6 h f t cf co cn st):=by unfold j6;infer_instance
def Fv(t:Int):Int:=if t % 2=1 then(t-1)/2+2 else t/2
structure KR where
 (h f t:Int)
 ok:Bool
def cL(h f t cf co cn st:Int):KR:=
 if j6 h f t cf co cn st then⟨0,0,0,false⟩else if Fv t<=cf then⟨h,f,t,true⟩else if f/2>=cf+co then⟨h,f+2*(cn-co),t+2*(cn-co),true⟩else⟨0,0,0,false⟩
def KR.enc(k:KR):T:=.eC [.agg [ti k.h,ti k.f,ti k.t],.bool k.ok]
theorem t41(t:Int)(h1:0<=t)(h2:t<=1000000):aT Tryz.prog 41 [ti t] (ti (Fv t)):=by
 obtain⟨R,hR⟩:∃R,Fv t=R:=⟨_,rfl⟩;rw[hR];unfold Fv at hR;have m1:IntKind.i64.wrap (t.tmod 2)=t % 2:=by rw[yD h1];exact au (by omega)
 have m2:IntKind.i64.wrap (t.tdiv 2)=t/2:=by rw[lZ h1];exact au (by omega)
 have m3:IntKind.i64.wrap (t-1)=t-1:=au (by omega);have aw:=dZ;refine c41.ok (by simp) (aK ?_);simp;refine aa.ab aw fw [0] ?_;simp[acx];refine aa.seq ?_;refine aa.ab aw fw [0,5] ?_;simp[acy];refine aa.cond rfl (λg=>?_) (λg=>?_)
 ·have g:t % 2=0:=by simpa [yD h1]using g
  rw[if_neg (by omega)]at hR;refine aa.ab aw fw [2] ?_;simp[acz,m2];refine aa.ret ?_;simp[KV,hR]
 ·have g:¬t % 2=0:=by simpa [yD h1]using g
  rw[if_pos (by omega)]at hR;have m4:IntKind.i64.wrap ((t-1).tdiv 2)=(t-1)/2:=by rw[lZ (by omega)];exact au (by omega)
  have m5:IntKind.i64.wrap ((t-1)/2+2)=(t-1)/2+2:=au (by omega);refine aa.skip ?_;simp;refine aa.ab aw fw [2] ?_;simp[acA,m3,m4,m5];refine aa.ret ?_;simp[KV,hR]
theorem t39(h f t cf co cn st:Int)(hs:1<=st)(JN:st<=10000):aT Tryz.prog 39 [.agg [ti h,ti f,ti t],.agg [ti cf,ti co,ti cn],ti st] (cL h f t cf co cn st).enc:=by
 obtain⟨R,hR⟩:∃R,cL h f t cf co cn st=R:=⟨_,rfl⟩;rw[hR];unfold cL at hR;have w1:IntKind.i64.wrap (st-1)=st-1:=au (by omega);have w2:IntKind.i64.wrap ((st-1).tdiv 2)=(st-1)/2:=by rw[lZ (by omega)];exact au (by omega)
 have aw:=dZ;refine c39.ok (by simp) (aK ?_);simp;refine aa.ab aw fw [2,3,4,6] ?_;simp[Hz];refine aa.le (Le.aD (o:=[(1007,.box [.v (ti 0),.v (ti 0),.v (ti 0)])]) (l:=[(2,.v (ti st)),(3,.v (.box [ti h,ti f,ti t])),(4,.v (.box [ti cf,ti co,ti cn])),(6,.ptr 1007 0)]) (nxt':=1200) ?_ ?_ ?_ ?_) ?_;iterate 4(·simp)
 refine aa.seq ?_;obtain⟨c1,aX⟩:∃c1:Bool,decide (h<0\/f<0\/t<f\/t>=st\/cf<0\/co<0\/cn<0\/cn>60\/cf>(st-1)/2\/co>(st-1)/2-cf)=c1:=⟨_,rfl⟩;refine aa.b7 aw fw [(3,.v (.box [ti h,ti f,ti t])),(4,.v (.box [ti cf,ti co,ti cn])),(6,.ptr 1007 0),(69,.v (.bool c1))] ?_ ?_
 ·by_cases q1:h<0
  ·have:c1=true:=by rw[<-aX];simp[q1]
   simp[mY,q1,this]
  ·skip
   by_cases q2:f<0
   ·have:c1=true:=by rw[<-aX];simp[q2]
    simp[mY,q1,q2,this]
   ·skip
    by_cases q3:t<f
    ·have:c1=true:=by rw[<-aX];simp[q3]
     simp[mY,q1,q2,q3,this]
    ·skip
     by_cases q4:t>=st
     ·have:c1=true:=by rw[<-aX];simp[q4]
      simp[mY,q1,q2,q3,q4,this]
     ·skip
      by_cases q5:cf<0
      ·have:c1=true:=by rw[<-aX];simp[q5]
       simp[mY,q1,q2,q3,q4,q5,this]
      ·skip
       by_cases q6:co<0
       ·have:c1=true:=by rw[<-aX];simp[q6]
        simp[mY,q1,q2,q3,q4,q5,q6,this]
       ·skip
        by_cases q7:cn<0
        ·have:c1=true:=by rw[<-aX];simp[q7]
         simp[mY,q1,q2,q3,q4,q5,q6,q7,this]
        ·skip
         by_cases q8:cn>60
         ·have:c1=true:=by rw[<-aX];simp[q8]
          simp[mY,q1,q2,q3,q4,q5,q6,q7,q8,this]
         ·skip
          by_cases q9:cf>(st-1)/2
          ·have:c1=true:=by rw[<-aX];simp[q9]
           simp[mY,q1,q2,q3,q4,q5,q6,q7,q8,q9,this,w1,w2]
          ·skip
           have w3:IntKind.i64.wrap ((st-1)/2-cf)=(st-1)/2-cf:=au (by omega);by_cases Ln:co>(st-1)/2-cf
           ·have:c1=true:=by rw[<-aX];simp[Ln]
            simp[mY,q1,q2,q3,q4,q5,q6,q7,q8,q9,Ln,this,w1,w2,w3]
           ·skip
            have:c1=false:=by rw[<-aX];simp[q1,q2,q3,q4,q5,q6,q7,q8,q9,Ln]
            simp[mY,q1,q2,q3,q4,q5,q6,q7,q8,q9,Ln,this,w1,w2,w3]
 refine aa.cond rfl (λg1=>?_) (λg1=>?_)
 ·rw[g1]at aX;rw[if_pos (show j6 h f t cf co cn st from of_decide_eq_true aX)]at hR;subst hR;refine aa.ab aw fw [6,7] ?_;simp[HA];refine aa.ret ?_;simp[kT,KR.enc]
 ·rw[g1]at aX;have aX:=of_decide_eq_false aX;rw[if_neg (show ¬j6 h f t cf co cn st from aX)]at hR;have m1:IntKind.i64.wrap (t.tmod 2)=t % 2:=by rw[yD (by omega)];exact au (by omega)
  have m2:IntKind.i64.wrap (t.tdiv 2)=t/2:=by rw[lZ (by omega)];exact au (by omega)
  have m3:IntKind.i64.wrap (t-1)=t-1:=au (by omega);have m6:IntKind.i64.wrap (f.tdiv 2)=f/2:=by rw[lZ (by omega)];exact au (by omega)
  have m7:IntKind.i64.wrap (cf+co)=cf+co:=au (by omega);have m8:IntKind.i64.wrap (cn-co)=cn-co:=au (by omega);have m9:IntKind.i64.wrap (2*(cn-co))=2*(cn-co):=au (by omega);have m10:IntKind.i64.wrap (f+2*(cn-co))=f+2*(cn-co):=au (by omega);have m11:IntKind.i64.wrap (t+2*(cn-co))=t+2*(cn-co):=au (by omega);refine aa.skip ?_;simp;refine aa.ab aw fw [3,4,6,8] ?_;simp[HB,m2];refine aa.seq ?_;refine aa.ab aw fw [3,4,6,8,77] ?_;simp[HC];refine aa.cond rfl (λg2=>?_) (λg2=>?_)
  ·have g2:t % 2=1:=by simpa [yD (x:=t) (by omega)]using g2
   have m4:IntKind.i64.wrap ((t-1).tdiv 2)=(t-1)/2:=by rw[lZ (by omega)];exact au (by omega)
   have m5:IntKind.i64.wrap ((t-1)/2+2)=(t-1)/2+2:=au (by omega);have hE:Fv t=(t-1)/2+2:=if_pos g2;rw[hE]at hR;refine aa.dc aw fw [3,4,6,8] ?_;simp[HD,m3,m4,m5];refine aa.seq ?_;refine aa.ab aw fw [3,4,6,86] ?_;simp[SY];refine aa.cond rfl (λg3=>?_) (λg3=>?_)
   ·rw[if_pos (by simpa using g3)]at hR;subst hR;refine aa.ab aw fw [6,7] ?_;simp[SZ];refine aa.ret ?_;simp[kT,KR.enc]
   ·rw[if_neg (by simpa using g3)]at hR;refine aa.skip ?_;simp;refine aa.seq ?_;refine aa.ab aw fw [3,4,6,96] ?_;simp[S0,m6,m7];refine aa.cond rfl (λg4=>?_) (λg4=>?_)
    ·rw[if_pos (by simpa using g4)]at hR;subst hR;refine aa.ab aw fw [3,6,9] ?_;simp[S3,m8,m9];refine aa.ab aw fw [6,7] ?_;simp[KQ,m10,m11];refine aa.ret ?_;simp[kT,KR.enc]
    ·rw[if_neg (by simpa using g4)]at hR;subst hR;refine aa.skip ?_;simp;refine aa.ab aw fw [6,7] ?_;simp[KS];refine aa.ret ?_;simp[kT,KR.enc]
  ·have g2:¬t % 2=1:=by simpa [yD (x:=t) (by omega)]using g2
   have hE:Fv t=t/2:=if_neg g2;rw[hE]at hR;refine aa.skip ?_;simp;refine aa.seq ?_;refine aa.ab aw fw [3,4,6,86] ?_;simp[SY];refine aa.cond rfl (λg3=>?_) (λg3=>?_)
   ·rw[if_pos (by simpa using g3)]at hR;subst hR;refine aa.ab aw fw [6,7] ?_;simp[SZ];refine aa.ret ?_;simp[kT,KR.enc]
   ·rw[if_neg (by simpa using g3)]at hR;refine aa.skip ?_;simp;refine aa.seq ?_;refine aa.ab aw fw [3,4,6,96] ?_;simp[S0,m6,m7];refine aa.cond rfl (λg4=>?_) (λg4=>?_)
    ·rw[if_pos (by simpa using g4)]at hR;subst hR;refine aa.ab aw fw [3,6,9] ?_;simp[S3,m8,m9];refine aa.ab aw fw [6,7] ?_;simp[KQ,m10,m11];refine aa.ret ?_;simp[kT,KR.enc]
    ·rw[if_neg (by simpa using g4)]at hR;subst hR;refine aa.skip ?_;simp;refine aa.ab aw fw [6,7] ?_;simp[KS];refine aa.ret ?_;simp[kT,KR.enc]
abbrev s41:DM.Spec:=cz (λts=>∃t,ts=[ti t]/\0<=t/\t<=1000000) (fun|[.int _ t]=>ti (Fv t)|_=>.bool false) true
theorem ok41:ay Tryz.prog (aW [(41,s41)]):=by
 refine ay.cons ay.nil ?_;rintro ts ⟨t,rfl,h1,h2⟩;exact⟨t41 t h1 h2,λ_=>rfl⟩
theorem t18(h f t cf co cn st:Int)(hs:1<=st)(JN:st<=10000):aT Tryz.prog 18 [.agg [ti h,ti f,ti t],.agg [ti cf,ti co,ti cn],ti st] (cL h f t cf co cn st).enc:=by
 obtain⟨R,hR⟩:∃R,cL h f t cf co cn st=R:=⟨_,rfl⟩;rw[hR];unfold cL at hR;have w1:IntKind.i64.wrap (st-1)=st-1:=au (by omega);have w2:IntKind.i64.wrap ((st-1).tdiv 2)=(st-1)/2:=by rw[lZ (by omega)];exact au (by omega)
 have aw:=ok41;refine c18.ok (by simp) (aK ?_);simp;refine aa.ab aw fw [2,3,4,6] ?_;simp[acB];refine aa.le (Le.aD (o:=[(1007,.box [.v (ti 0),.v (ti 0),.v (ti 0)])]) (l:=[(2,.v (ti st)),(3,.v (.box [ti h,ti f,ti t])),(4,.v (.box [ti cf,ti co,ti cn])),(6,.ptr 1007 0)]) (nxt':=1200) ?_ ?_ ?_ ?_) ?_;iterate 4(·simp)
 refine aa.seq ?_;obtain⟨c1,aX⟩:∃c1:Bool,decide (h<0\/f<0\/t<f\/t>=st\/cf<0\/co<0\/cn<0\/cn>60\/cf>(st-1)/2\/co>(st-1)/2-cf)=c1:=⟨_,rfl⟩;refine aa.b7 aw fw [(3,.v (.box [ti h,ti f,ti t])),(4,.v (.box [ti cf,ti co,ti cn])),(6,.ptr 1007 0),(68,.v (.bool c1))] ?_ ?_
 ·by_cases q1:h<0
  ·have:c1=true:=by rw[<-aX];simp[q1]
   simp[qg,q1,this]
  ·skip
   by_cases q2:f<0
   ·have:c1=true:=by rw[<-aX];simp[q2]
    simp[qg,q1,q2,this]
   ·skip
    by_cases q3:t<f
    ·have:c1=true:=by rw[<-aX];simp[q3]
     simp[qg,q1,q2,q3,this]
    ·skip
     by_cases q4:t>=st
     ·have:c1=true:=by rw[<-aX];simp[q4]
      simp[qg,q1,q2,q3,q4,this]
     ·skip
      by_cases q5:cf<0
      ·have:c1=true:=by rw[<-aX];simp[q5]
       simp[qg,q1,q2,q3,q4,q5,this]
      ·skip
       by_cases q6:co<0
       ·have:c1=true:=by rw[<-aX];simp[q6]
        simp[qg,q1,q2,q3,q4,q5,q6,this]
       ·skip
        by_cases q7:cn<0
        ·have:c1=true:=by rw[<-aX];simp[q7]
         simp[qg,q1,q2,q3,q4,q5,q6,q7,this]
        ·skip
         by_cases q8:cn>60
         ·have:c1=true:=by rw[<-aX];simp[q8]
          simp[qg,q1,q2,q3,q4,q5,q6,q7,q8,this]
         ·skip
          by_cases q9:cf>(st-1)/2
          ·have:c1=true:=by rw[<-aX];simp[q9]
           simp[qg,q1,q2,q3,q4,q5,q6,q7,q8,q9,this,w1,w2]
          ·skip
           have w3:IntKind.i64.wrap ((st-1)/2-cf)=(st-1)/2-cf:=au (by omega);by_cases Ln:co>(st-1)/2-cf
           ·have:c1=true:=by rw[<-aX];simp[Ln]
            simp[qg,q1,q2,q3,q4,q5,q6,q7,q8,q9,Ln,this,w1,w2,w3]
           ·skip
            have:c1=false:=by rw[<-aX];simp[q1,q2,q3,q4,q5,q6,q7,q8,q9,Ln]
            simp[qg,q1,q2,q3,q4,q5,q6,q7,q8,q9,Ln,this,w1,w2,w3]
 refine aa.cond rfl (λg1=>?_) (λg1=>?_)
 ·rw[g1]at aX;rw[if_pos (show j6 h f t cf co cn st from of_decide_eq_true aX)]at hR;subst hR;refine aa.ab aw fw [6,7] ?_;simp[acC];refine aa.ret ?_;simp[Bj,KR.enc]
 ·rw[g1]at aX;have aX:=of_decide_eq_false aX;rw[if_neg (show ¬j6 h f t cf co cn st from aX)]at hR;have m6:IntKind.i64.wrap (f.tdiv 2)=f/2:=by rw[lZ (by omega)];exact au (by omega)
  have m7:IntKind.i64.wrap (cf+co)=cf+co:=au (by omega);have m8:IntKind.i64.wrap (cn-co)=cn-co:=au (by omega);have m9:IntKind.i64.wrap (2*(cn-co))=2*(cn-co):=au (by omega);have m10:IntKind.i64.wrap (f+2*(cn-co))=f+2*(cn-co):=au (by omega);have m11:IntKind.i64.wrap (t+2*(cn-co))=t+2*(cn-co):=au (by omega);refine aa.skip ?_;simp;refine aa.seq ?_;refine aa.ab aw fw [3,4,6,75] ?_;simp[acD];repeat (refine⟨by omega, ?_⟩)
  refine aa.cond rfl (λg3=>?_) (λg3=>?_)
  ·rw[if_pos (by simpa using g3)]at hR;subst hR;refine aa.ab aw fw [6,7] ?_;simp[acE];refine aa.ret ?_;simp[Bj,KR.enc]
  ·rw[if_neg (by simpa using g3)]at hR;refine aa.skip ?_;simp;refine aa.seq ?_;refine aa.ab aw fw [3,4,6,85] ?_;simp[acF,m6,m7];refine aa.cond rfl (λg4=>?_) (λg4=>?_)
   ·rw[if_pos (by simpa using g4)]at hR;subst hR;refine aa.ab aw fw [3,6,8] ?_;simp[acG,m8,m9];refine aa.ab aw fw [6,7] ?_;simp[acH,m10,m11];refine aa.ret ?_;simp[Bj,KR.enc]
   ·rw[if_neg (by simpa using g4)]at hR;subst hR;refine aa.skip ?_;simp;refine aa.ab aw fw [6,7] ?_;simp[acI];refine aa.ret ?_;simp[Bj,KR.enc]
end cC
end Go.Proofs
