/- Part of the proof. Conditions: none. -/
import Derived.Test.YtnhpkhblghgpdaaGreatDoorXae
import Derived.KernelRfl
set_option linter.unusedSectionVars false
set_option linter.unusedSimpArgs false
set_option linter.unusedVariables false
set_option linter.defProp false
set_option maxRecDepth 100000
set_option maxHeartbeats 1000000
namespace Go.Proofs
namespace cC
open Go.DM
def d64r0:ai:=[
 B 0 3,
 I 0 6]
def d64r1:ai:=[
 n 1 8,
 a 1 3 9 [],
 l 9 10 [1],
 b .mul 8 10 11 [0,2],
 n 1 12,
 n 1 13,
 C .sub 13 1 14 [5],
 b .mul 12 14 15 [4,6],
 C .quo 15 2 16 [7],
 b .sub 11 16 17 [3,8],
 m 17 7 (k [9] 9)]
def d64r2:ai:=[
 n 7 18,
 n 2 19,
 b .add 18 19 20 [0,1],
 n 1 21,
 b .sub 20 21 22 [2,3],
 a 0 3 23 [],
 l 23 24 [5],
 b .mul 22 24 25 [4,6],
 m 25 6 (k [7] 7)]
def d64:DC:=(j (y d64r0) (j (y d64r1) (j (y d64r2) .ret)))
def Zm:List bV:=[.da 6]
def c64 [bI]:aB aj 151 26 d64 Zm:=aB.of Tryz.f151 (by kernel_rfl)
def d37r0:ai:=[
 B 0 2,
 B 1 3,
 o (.alloc [V 0,V 0,V 0,V 0]) 4 []]
def Eh:ai:=[
 a 0 3 7 [],
 l 7 8 [0],
 C .lss 8 0 9 [1],
 m 9 10 [2],
 u 0 3 11 10 false [3],
 v 11 12 10 false [4,3],
 u 0 2 13 10 false [3],
 v 13 14 10 false [6,3],
 D .geq 12 14 15 10 false [5,7,3],
 p 10 15 16 [3,8],
 m 16 17 [9,3],
 u 1 3 18 17 false [10],
 v 18 19 17 false [11,10],
 E .lss 19 0 20 17 false [12,10],
 p 17 20 21 [10,13],
 m 21 22 [14,10],
 u 1 3 23 22 false [15],
 v 23 24 22 false [16,15],
 u 2 3 25 22 false [15],
 v 25 26 22 false [18,15],
 D .gtr 24 26 27 22 false [17,19,15],
 p 22 27 28 [15,20],
 m 28 29 [21,15],
 u 2 3 30 29 false [22],
 v 30 31 29 false [23,22],
 u 1 2 32 29 false [22],
 v 32 33 29 false [25,22],
 D .geq 31 33 34 29 false [24,26,22],
 p 29 34 35 [22,27]]
def d37r2:ai:=[
 o (.load 4 true (.gN (.iD [(.int .i64 1099511627776),(.int .i64 0),(.int .i64 (-1)),(.int .i64 0)] 0))) 36 [],
 S 4 4 36 [0,0]]
def d37r3:ai:=[
 a 2 2 37 [],
 l 37 38 [0],
 N 38 39 [1],
 m 39 5 [2,0,1,2]]
def Lc:ai:=[
 a 2 3 40 [],
 l 40 41 [0],
 n 5 42,
 b .gtr 41 42 43 [1,2],
 m 43 44 [3],
 u 1 3 45 44 false [4],
 v 45 46 44 false [5,4],
 E .gtr 46 0 47 44 false [6,4],
 w 47 48 44 false [7,4,4],
 u 1 2 49 48 true [8],
 v 49 50 48 true [9,8],
 w 5 51 48 true [8],
 D .gtr 50 51 52 48 true [10,11,8],
 g (.pick (t 48) (t 52) (.gN (.v (.bool false)))) 53 44 false [8,12,4],
 p 44 53 54 [4,13],
 m 54 55 [14,8],
 u 2 3 56 55 false [15],
 v 56 57 55 false [16,15],
 E .gtr 57 0 58 55 false [17,15],
 w 58 59 55 false [18,15,15],
 u 0 2 60 59 true [19],
 v 60 61 59 true [20,19],
 w 5 62 59 true [19],
 D .gtr 61 62 63 59 true [21,22,19],
 g (.pick (t 59) (t 63) (.gN (.v (.bool false)))) 64 55 false [19,23,15],
 p 55 64 65 [15,24],
 m 65 66 [25,19],
 u 0 3 67 66 false [26],
 v 67 68 66 false [27,26],
 w 5 69 66 false [26],
 D .geq 68 69 70 66 false [28,29,26],
 p 66 70 71 [26,30]]
def d37r5:ai:=[
 o (.load 4 true (.gN (.iD [(.int .i64 1099511627776),(.int .i64 0),(.int .i64 (-1)),(.int .i64 0)] 0))) 72 [],
 S 4 4 72 [0,0]]
def d37r6:ai:=[
 L 3 2 73 [],
 a 1 3 74 [],
 l 74 75 [1],
 a 2 3 76 [],
 l 76 77 [3],
 o (.call 151 [(t 73),(t 75),(t 77)]) 78 [0,2,4],
 a 0 3 79 [],
 l 79 80 [6],
 b .add 78 80 81 [5,7],
 m 81 6 (k [8,5] 8)]
def d37r7:ai:=[
 n 6 82,
 n 5 83,
 b .geq 82 83 84 [0,1]]
def d37r8:ai:=[
 o (.load 4 true (.gN (.iD [(.int .i64 1099511627776),(.int .i64 0),(.int .i64 (-1)),(.int .i64 0)] 0))) 85 [],
 S 4 4 85 [0,0]]
def d37r9:ai:=[
 a 2 2 86 [],
 l 86 87 [0],
 n 6 88,
 x 4 87 88 89 [1,2],
 L 4 89 90 [3],
 S 4 4 90 (k [4] 4)]
def d37:DC:=(j (y d37r0) (j (j (y Eh) (.cond (.tmp 35) (j (y d37r2) .ret) .skip)) (j (y d37r3) (j (j (y Lc) (.cond (.tmp 71) (j (y d37r5) .ret) .skip)) (j (Y d37r6) (j (j (y d37r7) (.cond (.tmp 84) (j (y d37r8) .ret) .skip)) (j (y d37r9) .ret)))))))
def ON:List bV:=[.cell 4 4 true]
def c37:aB aj 144 91 d37 ON:=aB.of Tryz.f144 (by kernel_rfl)
def d56r0:ai:=[
 B 0 2,
 B 1 3,
 F 4]
def Ld:ai:=[
 a 0 2 5 [],
 l 5 6 [0],
 a 0 3 7 [],
 l 7 8 [2],
 b .lss 6 8 9 [1,3],
 m 9 10 [4],
 u 0 2 11 10 false [5],
 v 11 12 10 false [6,5],
 u 0 3 13 10 false [5],
 v 13 14 10 false [8,5],
 D .eql 12 14 15 10 false [7,9,5],
 w 15 16 10 false [10,5,5],
 u 1 2 17 16 true [11],
 v 17 18 16 true [12,11],
 u 1 3 19 16 true [11],
 v 19 20 16 true [14,11],
 D .lss 18 20 21 16 true [13,15,11],
 g (.pick (t 16) (t 21) (.gN (.v (.bool false)))) 22 10 false [11,16,5],
 p 10 22 23 [5,17],
 m 23 4 (k [18,11] 18)]
def d56:DC:=(j (y d56r0) (j (y Ld) .ret))
def Zn:List bV:=[.da 4]
def c56 [bI]:aB aj 84 24 d56 Zn:=aB.of Tryz.f84 (by kernel_rfl)
def d84r0:ai:=[
 o (.alloc [V 0,V 0]) 4 []]
def d84r1:ai:=[
 n 0 8,
 o (.minmax false (t 8) (i 1099511627776)) 9 [0],
 o (.build [V 0,V 0] [(0,1,(t 9)),(1,1,(i 1))]) 10 [1],
 o (.alloc [V 0,V 0]) 5 [],
 S 2 5 10 [3,2,0,1,2,3]]
def d84r2:ai:=[
 n 1 11,
 N 11 12 [0],
 I 0 13]
def d84r3:ai:=[
 b .lss 13 12 14 []]
def d84r4:ai:=[
 x 2 11 13 15 [],
 L 2 15 16 [0],
 o (.alloc [V 0,V 0]) 7 [],
 S 2 7 16 [2,1,0,1,2]]
def d84r5:ai:=[
 a 0 5 17 [],
 l 17 18 [0],
 a 0 7 19 [],
 l 19 20 [2],
 b .add 18 20 21 [1,3],
 o (.minmax false (t 21) (i 1099511627776)) 22 [4],
 a 0 5 23 (k [] 5),
 S 1 23 22 (k [6,5] 5)]
def d84r6:ai:=[
 a 1 5 24 [],
 l 24 25 [0],
 a 1 7 26 [],
 l 26 27 [2],
 b .add 25 27 28 [1,3],
 o (.minmax false (t 28) (i 1099511627776)) 29 [4],
 a 1 5 30 (k [] 5),
 S 1 30 29 (k [6,5] 5)]
def d84r7:ai:=[
 C .add 13 1 31 [],
 m 31 13 [0]]
def d84r8:ai:=[
 a 0 5 32 [],
 l 32 33 [0],
 C .eql 33 1099511627776 34 [1]]
def d84r9:ai:=[
 o (.build [V 0,V 0] [(0,1,(i 1099511627776))]) 35 [],
 S 2 4 35 [0,0]]
def Zo:ai:=[
 L 2 5 36 [],
 S 2 4 36 [0,0]]
def d84:DC:=(j (y d84r0) (j (y d84r1) (j (j (y d84r2) (.block 0 (.loop (j (y d84r3) (j (.cond (.tmp 14) .skip (.exit 0)) (j (.block 1 (j (y d84r4) (j (y d84r5) (y d84r6)))) (y d84r7))))))) (j (j (y d84r8) (.cond (.tmp 34) (j (y d84r9) .ret) .skip)) (j (y Zo) .ret)))))
def OO:List bV:=[.cell 4 2 true]
def c84 [bI]:aB aj 123 37 d84 OO:=aB.of Tryz.f123 (by kernel_rfl)
def d86r0:ai:=[
 B 0 2,
 F 4]
def Ei:ai:=[
 a 0 2 5 [],
 l 5 6 [0],
 C .eql 6 3 7 [1],
 m 7 8 [2],
 u 2 2 9 8 true [3],
 v 9 10 8 true [4,3],
 w 1 11 8 true [3],
 D .eql 10 11 12 8 true [5,6,3],
 q 8 12 13 [3,7],
 m 13 14 [8,3],
 u 0 2 15 14 false [9],
 v 15 16 14 false [10,9],
 E .eql 16 4 17 14 false [11,9],
 w 17 18 14 false [12,9,9],
 u 2 2 19 18 true [13],
 v 19 20 18 true [14,13],
 w 1 21 18 true [13],
 D .eql 20 21 22 18 true [15,16,13],
 w 22 23 18 true [17,13,13],
 u 3 2 24 23 false [18],
 v 24 25 23 false [19,18],
 w 1 26 23 false [18],
 D .eql 25 26 27 23 false [20,21,18],
 g (.pick (t 23) (.gN (.v (.bool true))) (t 27)) 28 18 true [18,22,13],
 g (.pick (t 18) (t 28) (.gN (.v (.bool false)))) 29 14 false [13,23,9],
 p 14 29 30 [9,24],
 m 30 4 (k [25,18] 25)]
def d86:DC:=(j (y d86r0) (j (y Ei) .ret))
def Zp:List bV:=[.da 4]
def c86 [bI]:aB aj 125 31 d86 Zp:=aB.of Tryz.f125 (by kernel_rfl)
def d83r0:ai:=[
 o (.alloc [V 0,V 0]) 8 []]
def Q0:ai:=[
 n 2 9,
 n 0 10,
 c 10 11 [1],
 a 10 11 12 [2],
 l 12 13 [3],
 b .eql 9 13 14 [0,4],
 m 14 15 [5],
 w 3 16 15 true [6],
 w 0 17 15 true [6],
 g (.nilCheck (t 17)) 18 15 true [8,6],
 u 11 18 19 15 true [9,6],
 v 19 20 15 true [10,6],
 D .eql 16 20 21 15 true [7,11,6],
 q 15 21 22 [6,12]]
def d83r2:ai:=[
 n 0 23,
 c 23 24 [0],
 a 12 24 25 [1],
 l 25 26 [2],
 n 1 27,
 x 2 26 27 28 [3,4],
 L 2 28 29 [5],
 S 2 8 29 (k [6] 6)]
def d83r3:ai:=[
 n 0 30,
 c 30 31 [0],
 a 7 31 32 [1],
 L 3 32 33 [2],
 n 1 34,
 n 2 35,
 n 3 36,
 o (.build [V 0,V 0,V 0] [(0,1,(t 34)),(1,1,(t 35)),(2,1,(t 36))]) 37 [4,5,6],
 o (.call 144 [(t 33),(t 37)]) 38 [3,7],
 o (.field 0 2 true (t 38)) 39 [8],
 S 2 8 39 (k [9,8] 9)]
def d83:DC:=(j (y d83r0) (j (j (y Q0) (.cond (.tmp 22) (j (y d83r2) .ret) .skip)) (j (y d83r3) .ret)))
def OP:List bV:=[.cell 8 2 true]
def c83 [bI]:aB aj 122 40 d83 OP:=aB.of Tryz.f122 (by kernel_rfl)
def Zq:ai:=[
 F 4]
def Zr:ai:=[
 n 1 7,
 N 7 8 [0],
 I 0 9]
def Zs:ai:=[
 b .lss 9 8 10 []]
def d59r3:ai:=[
 x 3 7 9 11 [],
 L 3 11 12 [0],
 o (.alloc [V 0,V 0,V 0]) 6 [],
 S 3 6 12 [2,1,0,1,2]]
def Ra:ai:=[
 a 1 6 13 [],
 l 13 14 [0],
 n 0 15,
 c 15 16 [2],
 a 10 16 17 [3],
 l 17 18 [4],
 b .eql 14 18 19 [1,5],
 m 19 20 [6],
 u 2 6 21 20 true [7],
 v 21 22 20 true [8,7],
 w 0 23 20 true [7],
 g (.nilCheck (t 23)) 24 20 true [10,7],
 u 11 24 25 20 true [11,7],
 v 25 26 20 true [12,7],
 D .eql 22 26 27 20 true [9,13,7],
 q 20 27 28 [7,14]]
def d59r5:ai:=[
 R 4]
def d59r6:ai:=[
 C .add 9 1 29 [],
 m 29 9 [0]]
def Zt:ai:=[
 F 4]
def d59:DC:=(j (y Zq) (j (j (y Zr) (.block 0 (.loop (j (y Zs) (j (.cond (.tmp 10) .skip (.exit 0)) (j (.block 1 (j (y d59r3) (j (Y Ra) (.cond (.tmp 28) (j (y d59r5) .ret) .skip)))) (y d59r6))))))) (j (y Zt) .ret)))
def Iy:List bV:=[.da 4]
def c59 [bI]:aB aj 87 30 d59 Iy:=aB.of Tryz.f87 (by kernel_rfl)
def Zu:ai:=[
 o (.alloc [V 0,V 0]) 6 []]
def Zv:ai:=[
 Z 7]
def Zw:ai:=[
 n 2 10,
 N 10 11 [0],
 I 0 12]
def Zx:ai:=[
 b .lss 12 11 13 []]
def d61r4:ai:=[
 x 3 10 12 14 [],
 L 3 14 15 [0],
 o (.alloc [V 0,V 0,V 0]) 9 [],
 S 3 9 15 [2,1,0,1,2]]
def OQ:ai:=[
 n 7 16,
 n 0 17,
 a 0 9 18 [],
 l 18 19 [2],
 a 1 9 20 [],
 l 20 21 [4],
 a 2 9 22 [],
 l 22 23 [6],
 o (.callS 122 [(t 17),(t 19),(t 21),(t 23)]) 24 [1,3,5,7],
 o (.bslice 1 2 [V 0,V 0] [(0,2,(t 24))]) 25 [8],
 o (.append 63 2 16 (t 16) (t 25)) 26 [0,9,8],
 m 26 7 (k [10,10] 10)]
def d61r5:ai:=OQ.map bare
def d61r6:ai:=[
 C .add 12 1 27 [],
 m 27 12 [0]]
def Zy:ai:=[
 n 1 28,
 n 7 29,
 o (.call 123 [(t 28),(t 29)]) 30 [0,1],
 S 2 6 30 [2,2,0,1,2]]
def d61:DC:=(j (y Zu) (j (y Zv) (j (j (y Zw) (.block 0 (.loop (j (y Zx) (j (.cond (.tmp 13) .skip (.exit 0)) (j (.block 1 (j (y d61r4) (y d61r5))) (y d61r6))))))) (j (y Zy) .ret))))
def OR:List bV:=[.cell 6 2 true]
def c61 [bI]:aB aj 89 31 d61 OR:=aB.of Tryz.f89 (by kernel_rfl)
def d89r0:ai:=[
 F 4]
def d89r1:ai:=[
 n 1 7,
 N 7 8 [0],
 I 0 9]
def d89r2:ai:=[
 b .lss 9 8 10 []]
def d89r3:ai:=[
 x 3 7 9 11 [],
 L 3 11 12 [0],
 o (.alloc [V 0,V 0,V 0]) 6 [],
 S 3 6 12 [2,1,0,1,2]]
def Rb:ai:=[
 a 1 6 13 [],
 l 13 14 [0],
 n 0 15,
 c 15 16 [2],
 a 10 16 17 [3],
 l 17 18 [4],
 b .eql 14 18 19 [1,5],
 m 19 20 [6],
 u 2 6 21 20 true [7],
 v 21 22 20 true [8,7],
 w 0 23 20 true [7],
 g (.nilCheck (t 23)) 24 20 true [10,7],
 u 11 24 25 20 true [11,7],
 v 25 26 20 true [12,7],
 D .eql 22 26 27 20 true [9,13,7],
 q 20 27 28 [7,14],
 m 28 29 [15,7],
 w 0 30 29 true [16],
 g (.nilCheck (t 30)) 31 29 true [17,16],
 u 13 31 32 29 true [18,16],
 v 32 33 29 true [19,16],
 u 0 6 34 29 true [16],
 v 34 35 29 true [21,16],
 g (.idxAddr 1 (t 33) (t 35)) 36 29 true [20,22,16],
 v 36 37 29 true [23,16],
 K 37 38 29 true [24,16],
 q 29 38 39 [16,25]]
def d89r5:ai:=[
 F 4]
def d89r6:ai:=[
 C .add 9 1 40 [],
 m 40 9 [0]]
def d89r7:ai:=[
 R 4]
def d89:DC:=(j (y d89r0) (j (j (y d89r1) (.block 0 (.loop (j (y d89r2) (j (.cond (.tmp 10) .skip (.exit 0)) (j (.block 1 (j (y d89r3) (j (Y Rb) (.cond (.tmp 39) (j (y d89r5) .ret) .skip)))) (y d89r6))))))) (j (y d89r7) .ret)))
def OS:List bV:=[.da 4]
def c89 [bI]:aB aj 128 41 d89 OS:=aB.of Tryz.f128 (by kernel_rfl)
def Lf:ai:=[
 o (.qu (.gN (.v (.mg (Go.Value.pointer Option.none))))) 2 []]
def Lg:ai:=[
 n 0 3,
 o (.mkMap [(.int .i64)] false) 4 [],
 o (.build [(.v (.mg (Go.Value.nilFunc))),.aW,(.v (.mg (Go.Value.map Option.none))),V 0,V 0] [(0,1,(t 3)),(2,1,(t 4))]) 5 [0,1],
 o (.box (t 5)) 6 [2],
 m 6 2 [3,0,1,2,3]]
def d54:DC:=(j (y Lf) (j (y Lg) .ret))
def AB:List bV:=[.da 2]
def c54 [bI]:aB aj 82 7 d54 AB:=aB.of Tryz.f82 (by kernel_rfl)
def Zz:ai:=[
 F 6]
def OT:ai:=[
 n 0 9,
 c 9 10 [0],
 a 1 10 11 [1],
 l 11 12 [2],
 n 1 13,
 x 3 12 13 14 [3,4],
 L 3 14 15 [5],
 n 0 16,
 c 16 17 [7],
 a 1 17 18 [8],
 l 18 19 [9],
 n 2 20,
 x 3 19 20 21 [10,11],
 L 3 21 22 [12],
 o (.alloc [V 0,V 0,V 0]) 7 [],
 o (.alloc [V 0,V 0,V 0]) 8 [],
 S 3 7 15 [14,6,0,1,2,3,4,5,6,14,15],
 S 3 8 22 (k [15,13,16] 16)]
def ZA:ai:=[
 n 0 23,
 c 23 24 [0],
 a 0 24 25 [1],
 l 25 26 [2],
 a 0 7 27 [],
 l 27 28 [4],
 a 0 8 29 [],
 l 29 30 [6],
 o (.callv (t 26) [(t 28),(t 30)]) 31 [3,5,7]]
def ZB:ai:=[
 R 6]
def OU:ai:=[
 n 0 32,
 c 32 33 [0],
 a 0 33 34 [1],
 l 34 35 [2],
 a 0 8 36 [],
 l 36 37 [4],
 a 0 7 38 [],
 l 38 39 [6],
 o (.callv (t 35) [(t 37),(t 39)]) 40 [3,5,7],
 U 40 41 [8],
 m 41 42 [9,8],
 u 2 7 43 42 true [10],
 v 43 44 42 true [11,10],
 u 2 8 45 42 true [10],
 v 45 46 42 true [13,10],
 D .lss 44 46 47 42 true [12,14,10],
 q 42 47 48 [10,15],
 m 48 6 (k [16,10] 16)]
def d117:DC:=(j (y Zz) (j (.jr OT) (j (j (Y ZA) (.cond (.tmp 31) (j (y ZB) .ret) .skip)) (j (Y OU) .ret))))
def Iz:List bV:=[.da 6]
def c117 [bI]:aB aj 150 49 d117 Iz:=aB.of Tryz.f150 (by kernel_rfl)
def ZC:ai:=[
 n 0 6,
 c 6 7 [0],
 a 1 7 8 [1],
 l 8 9 [2],
 n 1 10,
 n 0 11,
 c 11 12 [5],
 a 1 12 13 [6],
 l 13 14 [7],
 n 2 15,
 n 0 16,
 c 16 17 [10],
 a 1 17 18 [11],
 l 18 19 [12],
 n 2 20,
 x 3 19 20 21 [13,14],
 L 3 21 22 [15],
 n 0 23,
 c 23 24 [17],
 a 1 24 25 [18],
 l 25 26 [19],
 n 1 27,
 x 3 26 27 28 [20,21],
 L 3 28 29 [22],
 x 3 9 10 30 [3,4,0,1,2,3,4,8,10,11,12,13,14,15,16,20,23],
 S 3 30 22 [24,16,0,1,2,3,4,8,10,11,12,13,14,15,16,20,23],
 x 3 14 15 31 (k [8,9] 25),
 S 3 31 29 (k [26,23,25] 25)]
def ZD:ai:=[
 n 0 32,
 c 32 33 [0],
 a 2 33 34 [1],
 l 34 35 [2],
 n 0 36,
 c 36 37 [4],
 a 1 37 38 [5],
 l 38 39 [6],
 n 1 40,
 x 3 39 40 41 [7,8],
 a 1 41 42 [9],
 l 42 43 [10],
 n 0 44,
 c 44 45 [12],
 a 2 45 46 [13],
 l 46 47 [14],
 n 0 48,
 c 48 49 [16],
 a 1 49 50 [17],
 l 50 51 [18],
 n 2 52,
 x 3 51 52 53 [19,20],
 a 1 53 54 [21],
 l 54 55 [22],
 n 1 56,
 n 2 57,
 o (.mapEnt [(.int .i64)] false (.v (.int .i64 0)) (t 35) (t 43)) 58 [3,11,15,19,23],
 e 1 58 59 [26],
 s (.entSt (t 35) (t 59) (t 56)) [3,27,24,26,0,1,2,3,4,5,6,7,8,9,10,11,15,19,23,24,26],
 o (.mapEnt [(.int .i64)] false (.v (.int .i64 0)) (t 47) (t 55)) 60 [15,23,28,0,1,2,3,4,5,6,7,8,9,10,11,15,19,23,24,26,27,28],
 e 1 60 61 [29],
 s (.entSt (t 47) (t 61) (t 57)) (k [15,30,25,29] 29)]
def d111:DC:=(j (Y ZC) (Y ZD))
def Rc:List bV:=[]
def c111 [bI]:aB aj 145 62 d111 Rc:=aB.of Tryz.f145 (by kernel_rfl)
def yN:ai:=[
 n 1 4,
 C .gtr 4 0 5 [0],
 m 5 6 [1],
 w 0 7 6 true [2],
 w 1 8 6 true [2],
 w 1 9 6 true [2],
 E .sub 9 1 10 6 true [5,2],
 E .quo 10 2 11 6 true [6,2],
 g (.callS 150 [(t 7),(t 8),(t 11)]) 12 6 true [3,4,7,2,2],
 q 6 12 13 [2,8]]
def d109r0:ai:=yN.map bare
def IA:ai:=[
 n 0 14,
 n 1 15,
 n 1 16,
 C .sub 16 1 17 [2],
 C .quo 17 2 18 [3],
 o (.callS 145 [(t 14),(t 15),(t 18)]) 19 [0,1,4]]
def d109r1:ai:=IA.map bare
def ZE:ai:=[
 n 1 20,
 C .sub 20 1 21 [0],
 C .quo 21 2 22 [1],
 m 22 1 [2,0,1,2]]
def d109:DC:=(.block 0 (.loop (j (j (y d109r0) (.cond (.tmp 13) .skip (.exit 0))) (.block 1 (j (y d109r1) (y ZE))))))
def IB:List bV:=[]
def c109 [bI]:aB aj 142 23 d109 IB:=aB.of Tryz.f142 (by kernel_rfl)
def ZF:ai:=[
 n 1 6,
 m 6 4 [0,0]]
def ZG:ai:=[
 n 1 7,
 o (.bin .mul (i 2) (t 7)) 8 [0],
 C .add 8 1 9 [1],
 m 9 5 [2,0,1,2]]
def IC:ai:=[
 n 5 10,
 n 1 11,
 o (.bin .mul (i 2) (t 11)) 12 [1],
 C .add 12 2 13 [2],
 b .leq 10 13 14 [0,3],
 m 14 15 [4],
 w 5 16 15 true [5],
 w 0 17 15 true [5],
 g (.nilCheck (t 17)) 18 15 true [7,5],
 u 1 18 19 15 true [8,5],
 v 19 20 15 true [9,5],
 H 20 21 15 true [10,5],
 D .lss 16 21 22 15 true [6,11,5],
 q 15 22 23 [5,12]]
def ID:ai:=[
 n 0 26,
 n 5 27,
 n 4 28,
 o (.callS 150 [(t 26),(t 27),(t 28)]) 29 [0,1,2]]
def d110r3:ai:=ID.map bare
def ZH:ai:=[
 n 5 30,
 m 30 4 [0,0]]
def ZI:ai:=[
 n 5 24,
 C .add 24 1 25 [0],
 m 25 5 [1,0,1]]
def ZJ:ai:=[
 n 4 31,
 n 1 32,
 b .eql 31 32 33 [0,1]]
def IE:ai:=[
 n 0 34,
 n 1 35,
 n 4 36,
 o (.callS 145 [(t 34),(t 35),(t 36)]) 37 [0,1,2]]
def d110r7:ai:=IE.map bare
def ZK:ai:=[
 n 4 38,
 m 38 1 [0,0]]
def d110:DC:=(.block 0 (.loop (.block 1 (j (y ZF) (j (j (y ZG) (.block 2 (.loop (j (j (y IC) (.cond (.tmp 23) .skip (.exit 2))) (j (.block 3 (j (y d110r3) (.cond (.tmp 29) (y ZH) .skip))) (y ZI)))))) (j (j (y ZJ) (.cond (.tmp 33) .ret .skip)) (j (y d110r7) (y ZK))))))))
def Rd:List bV:=[]
def c110 [bI]:aB aj 143 39 d110 Rd:=aB.of Tryz.f143 (by kernel_rfl)
def d82r0:ai:=[
 I 0 4]
def d82r1:ai:=[
 n 0 7,
 c 7 8 [0],
 a 3 8 9 [1],
 l 9 10 [2],
 n 0 11,
 c 11 12 [4],
 a 1 12 13 [5],
 l 13 14 [6],
 N 14 15 [7],
 m 10 5 [3,0,1,2,3],
 m 15 6 (k [8,9] 9)]
def d82r2:ai:=[
 n 0 16,
 n 0 17,
 c 17 18 [1],
 a 1 18 19 [2],
 l 19 20 [3],
 n 1 21,
 n 5 22,
 n 0 23,
 c 23 24 [7],
 a 4 24 25 [8],
 l 25 26 [9],
 o (.build [V 0,V 0,V 0] [(0,1,(t 21)),(1,1,(t 22)),(2,1,(t 26))]) 27 [5,6,10],
 o (.bslice 1 3 [V 0,V 0,V 0] [(0,3,(t 27))]) 28 [11],
 o (.append 220 3 24 (t 20) (t 28)) 29 [4,12],
 c 16 30 (k [0] 13),
 a 1 30 31 (k [14] 13),
 S 1 31 29 (k [15,13,13] 13)]
def d82r3:ai:=[
 n 0 32,
 c 32 33 [0],
 a 2 33 34 [1],
 l 34 35 [2],
 n 5 36,
 n 6 37,
 s (.mapUpd [(.int .i64)] false (t 35) (t 36) (t 37)) (k [3,4,5] 5)]
def d82r4:ai:=[
 n 0 38,
 n 0 39,
 n 0 40,
 c 40 41 [2],
 a 3 41 42 [3],
 l 42 43 [4],
 C .add 43 1 44 [5],
 n 0 45,
 c 45 46 [7],
 a 4 46 47 [8],
 l 47 48 [9],
 C .add 48 1 49 [10],
 c 38 50 [0,0,2,3,4,5,6,10],
 a 3 50 51 [12,0,2,3,4,5,6,10],
 S 1 51 44 [13,6,0,2,3,4,5,6,10],
 c 39 52 (k [1] 14),
 a 4 52 53 (k [15] 14),
 S 1 53 49 (k [16,11,14] 14)]
def OV:ai:=[
 n 0 54,
 n 6 55,
 o (.callS 142 [(t 54),(t 55)]) 56 [0,1]]
def d82r5:ai:=OV.map bare
def d82r6:ai:=[
 n 5 57,
 m 57 4 [0,0]]
def d82:DC:=(j (y d82r0) (j (Y d82r1) (j (Y d82r2) (j (y d82r3) (j (Y d82r4) (j (y d82r5) (j (y d82r6) .ret)))))))
def ZL:List bV:=[.da 4]
def c82 [bI]:aB aj 121 58 d82 ZL:=aB.of Tryz.f121 (by kernel_rfl)
def d85r0:ai:=[
 I 0 2,
 o (.qu (.gN (.v (.bool false)))) 3 [0]]
def d85r1:ai:=[
 n 0 6,
 c 6 7 [0],
 a 1 7 8 [1],
 l 8 9 [2],
 N 9 10 [3],
 C .eql 10 0 11 [4]]
def d85r2:ai:=[
 o (.alloc [V 0]) 12 [],
 c 12 13 [0],
 l 13 14 [1],
 m 14 2 [2,0,1,2],
 o (.qu (.gN (.v (.bool false)))) 3 [3,0,1,2,3]]
def ZM:ai:=[
 n 0 15,
 c 15 16 [0],
 a 1 16 17 [1],
 l 17 18 [2],
 o (.idxAddr 3 (t 18) (i 0)) 19 [3],
 L 3 19 20 [4],
 n 0 21,
 c 21 22 [6],
 a 1 22 23 [7],
 l 23 24 [8],
 N 24 25 [9],
 C .sub 25 1 26 [10],
 o (.alloc [V 0,V 0,V 0]) 4 [],
 S 3 4 20 [12,5,0,1,2,3,4,5,12],
 m 26 5 (k [11,13] 13)]
def OW:ai:=[
 n 0 27,
 n 5 28,
 o (.callS 145 [(t 27),(i 0),(t 28)]) 29 [0,1]]
def d85r4:ai:=OW.map bare
def d85r5:ai:=[
 n 0 30,
 n 0 31,
 c 31 32 [1],
 a 1 32 33 [2],
 l 33 34 [3],
 n 5 35,
 o (.slice 3 (t 34) none (some (t 35))) 36 [4,5],
 c 30 37 (k [0] 6),
 a 1 37 38 (k [7] 6),
 S 1 38 36 (k [8,6] 6)]
def d85r6:ai:=[
 n 0 39,
 c 39 40 [0],
 a 2 40 41 [1],
 l 41 42 [2],
 a 1 4 43 [],
 l 43 44 [4],
 s (.mapDel [(.int .i64)] false (t 42) (t 44)) [3,5]]
def OX:ai:=[
 n 0 45,
 o (.callS 143 [(t 45),(i 0)]) 46 [0]]
def d85r7:ai:=OX.map bare
def d85r8:ai:=[
 a 0 4 47 [],
 l 47 48 [0],
 m 48 2 [1,0,1],
 o (.qu (.gN (.v (.bool true)))) 3 [2,0,1,2]]
def d85:DC:=(j (y d85r0) (j (j (y d85r1) (.cond (.tmp 11) (j (y d85r2) .ret) .skip)) (j (.jr ZM) (j (y d85r4) (j (y d85r5) (j (Y d85r6) (j (y d85r7) (j (y d85r8) .ret))))))))
def OY:List bV:=[.da 2,.da 3]
def c85 [bI]:aB aj 124 49 d85 OY:=aB.of Tryz.f124 (by kernel_rfl)
def d81r0:ai:=[
 F 6]
def d81r1:ai:=[
 n 0 10,
 c 10 11 [0],
 a 2 11 12 [1],
 l 12 13 [2],
 n 1 14,
 o (.lookup [(.int .i64)] false (.v (.int .i64 0)) true (t 13) (t 14)) 15 [3,4],
 m 15 9 [5],
 e 0 9 16 [6],
 e 1 9 17 [6],
 m 16 7 (k [7] 7),
 m 17 8 (k [8,9] 9)]
def d81r2:ai:=[
 n 8 18,
 U 18 19 [0]]
def d81r3:ai:=[
 F 6]
def d81r4:ai:=[
 n 0 20,
 c 20 21 [0],
 a 1 21 22 [1],
 l 22 23 [2],
 n 7 24,
 n 0 25,
 c 25 26 [5],
 a 1 26 27 [6],
 l 27 28 [7],
 n 7 29,
 n 2 30,
 n 0 31,
 c 31 32 [11],
 a 4 32 33 [12],
 l 33 34 [13],
 x 3 23 24 35 [3,4,0,1,2,3,4,8,10,14],
 a 0 35 36 [15,0,1,2,3,4,8,10,14],
 S 1 36 30 [16,10,0,1,2,3,4,8,10,14],
 x 3 28 29 37 (k [8,9] 17),
 a 2 37 38 (k [18] 17),
 S 1 38 34 (k [19,14,17] 17)]
def d81r5:ai:=[
 n 0 39,
 c 39 40 [0],
 a 4 40 41 [1],
 l 41 42 [2],
 C .add 42 1 43 [3],
 c 39 44 (k [0] 4),
 a 4 44 45 (k [5] 4),
 S 1 45 43 (k [6,4] 4)]
def OZ:ai:=[
 n 0 46,
 n 7 47,
 o (.callS 142 [(t 46),(t 47)]) 48 [0,1]]
def d81r6:ai:=OZ.map bare
def O0:ai:=[
 n 0 49,
 n 0 50,
 c 50 51 [1],
 a 2 51 52 [2],
 l 52 53 [3],
 n 1 54,
 o (.lookup [(.int .i64)] false (.v (.int .i64 0)) false (t 53) (t 54)) 55 [4,5],
 o (.callS 143 [(t 49),(t 55)]) 56 [0,6]]
def d81r7:ai:=O0.map bare
def d81r8:ai:=[
 R 6]
def d81:DC:=(j (y d81r0) (j (y d81r1) (j (j (y d81r2) (.cond (.tmp 19) (j (y d81r3) .ret) .skip)) (j (Y d81r4) (j (y d81r5) (j (y d81r6) (j (y d81r7) (j (y d81r8) .ret))))))))
def ZN:List bV:=[.da 6]
def c81 [bI]:aB aj 120 57 d81 ZN:=aB.of Tryz.f120 (by kernel_rfl)
def Lh:ai:=[
 B 2 5]
def BM:ai:=[
 n 0 6,
 c 6 7 [0],
 a 13 7 8 [1],
 l 8 9 [2],
 n 1 10,
 x 1 9 10 11 [3,4],
 l 11 12 [5],
 m 12 13 [6],
 u 0 5 14 13 false [7],
 v 14 15 13 false [8,7],
 E .geq 15 1099511627776 16 13 false [9,7],
 p 13 16 17 [7,10],
 m 17 18 [11,7],
 g (.load 2 true (t 5)) 19 18 false [12],
 w 0 20 18 false [12],
 g (.nilCheck (t 20)) 21 18 false [14,12],
 u 12 21 22 18 false [15,12],
 v 22 23 18 false [16,12],
 w 1 24 18 false [12],
 g (.idxAddr 2 (t 23) (t 24)) 25 18 false [17,18,12],
 g (.load 2 true (t 25)) 26 18 false [19,12],
 g (.call 84 [(t 19),(t 26)]) 27 18 false [13,20,12,12],
 K 27 28 18 false [21,12],
 p 18 28 29 [12,22]]
def Li:ai:=[
 n 0 30,
 c 30 31 [0],
 a 12 31 32 [1],
 l 32 33 [2],
 n 1 34,
 L 2 5 35 [],
 x 2 33 34 36 (k [3,4] 5),
 S 2 36 35 (k [6,5] 5)]
def Lj:ai:=[
 n 0 37,
 c 37 38 [0],
 a 14 38 39 [1],
 l 39 40 [2],
 n 1 41,
 x 1 40 41 42 [3,4],
 l 42 43 [5],
 C .geq 43 0 44 [6]]
def Re:ai:=[
 n 0 45,
 c 45 46 [0],
 a 15 46 47 [1],
 l 47 48 [2],
 n 0 49,
 c 49 50 [4],
 a 14 50 51 [5],
 l 51 52 [6],
 n 1 53,
 x 1 52 53 54 [7,8],
 l 54 55 [9],
 n 1 56,
 o (.call 120 [(t 48),(t 55),(t 56)]) 57 [3,10,11]]
def ZO:ai:=[
 n 0 45,
 c 45 46 [0],
 a 15 46 47 [1],
 l 47 48 [2],
 n 0 49,
 c 49 50 [4],
 a 14 50 51 [5],
 l 51 52 [6],
 n 1 53,
 x 1 52 53 54 [7,8],
 l 54 55 [9],
 n 1 56,
 o (.callS 120 [(t 48),(t 55),(t 56)]) 57 [3,10,11]]
def Rf:ai:=[
 n 0 58,
 c 58 59 [0],
 a 14 59 60 [1],
 l 60 61 [2],
 n 1 62,
 n 0 63,
 c 63 64 [5],
 a 15 64 65 [6],
 l 65 66 [7],
 n 1 67,
 o (.call 121 [(t 66),(t 67)]) 68 [8,9],
 x 1 61 62 69 (k [3,4] 10),
 S 1 69 68 (k [11,10,10] 10)]
def ZP:ai:=[
 n 0 58,
 c 58 59 [0],
 a 14 59 60 [1],
 l 60 61 [2],
 n 1 62,
 n 0 63,
 c 63 64 [5],
 a 15 64 65 [6],
 l 65 66 [7],
 n 1 67,
 o (.callS 121 [(t 66),(t 67)]) 68 [8,9],
 x 1 61 62 69 (k [3,4] 10),
 S 1 69 68 (k [11,10,10] 10)]
def d60:DC:=(j (y Lh) (j (j (Y BM) (.cond (.tmp 29) .ret .skip)) (j (Y Li) (j (y Lj) (.cond (.tmp 44) (Y Re) (Y Rf))))))
def wU:List bV:=[]
def c60 [bI]:aB aj 88 70 d60 wU:=aB.of Tryz.f88 (by kernel_rfl)
def ZQ:ai:=[
 I 0 4]
def ZR:ai:=[
 n 0 8,
 I 0 5,
 m 8 6 [0,1,0,1]]
def ZS:ai:=[
 n 5 9,
 n 6 10,
 b .lss 9 10 11 [0,1]]
def ZT:ai:=[
 n 5 12,
 n 6 13,
 b .add 12 13 14 [0,1],
 o (.conv .u64 (t 14)) 15 [2],
 o (.bin .shr (t 15) (.gN (.v (.int .u64 1)))) 16 [3],
 o (.conv .i64 (t 16)) 17 [4],
 m 17 7 (k [5] 5)]
def ZU:ai:=[
 n 1 18,
 n 7 19,
 o (.callv (t 18) [(t 19)]) 20 [0,1],
 U 20 21 [2]]
def ZV:ai:=[
 n 7 22,
 C .add 22 1 23 [0],
 m 23 5 [1,0,1]]
def ZW:ai:=[
 n 7 24,
 m 24 6 [0,0]]
def ZX:ai:=[
 n 5 25,
 m 25 4 [0,0]]
def d107:DC:=(j (y ZQ) (j (y ZR) (j (.block 0 (.loop (j (j (y ZS) (.cond (.tmp 11) .skip (.exit 0))) (.block 1 (j (y ZT) (j (y ZU) (.cond (.tmp 21) (y ZV) (y ZW)))))))) (j (y ZX) .ret))))
def Rg:List bV:=[.da 4]
def c107 [bI]:aB aj 140 26 d107 Rg:=aB.of Tryz.f140 (by kernel_rfl)
def ZY:ai:=[
 F 3]
def ZZ:ai:=[
 l 1 5 [],
 c 5 6 [0],
 a 4 6 7 [1],
 a 1 7 8 [2],
 l 8 9 [3],
 n 0 10,
 x 5 9 10 11 [4,5],
 L 5 11 12 [6],
 o (.alloc [V 0,V 0,V 0,V 0,.aW]) 4 [],
 S 5 4 12 (k [8,7] 8)]
def Ej:ai:=[
 a 0 4 13 [],
 l 13 14 [0],
 l 1 15 [],
 c 15 16 [2],
 a 10 16 17 [3],
 l 17 18 [4],
 b .gtr 14 18 19 [1,5],
 m 19 20 [6],
 u 0 4 21 20 false [7],
 v 21 22 20 false [8,7],
 v 1 23 20 false [7],
 g (.nilCheck (t 23)) 24 20 false [10,7],
 u 10 24 25 20 false [11,7],
 v 25 26 20 false [12,7],
 D .eql 22 26 27 20 false [9,13,7],
 w 27 28 20 false [14,7,7],
 u 1 4 29 28 true [15],
 v 29 30 28 true [16,15],
 v 1 31 28 true [15],
 g (.nilCheck (t 31)) 32 28 true [18,15],
 u 11 32 33 28 true [19,15],
 v 33 34 28 true [20,15],
 D .geq 30 34 35 28 true [17,21,15],
 g (.pick (t 28) (t 35) (.gN (.v (.bool false)))) 36 20 false [15,22,7],
 p 20 36 37 [7,23],
 m 37 3 (k [24,15] 24)]
def d108:DC:=(j (y ZY) (j (y ZZ) (j (Y Ej) .ret)))
def Rh:List bV:=[.da 3]
def c108 [bI]:aB aj 141 38 d108 Rh:=aB.of Tryz.f141 (by kernel_rfl)
def d80r0:ai:=[
 B 0 1,
 I 0 2,
 o (.qu (i 0)) 3 [1]]
def O1:ai:=[
 l 1 6 [],
 c 6 7 [0],
 a 4 7 8 [1],
 a 1 8 9 [2],
 l 9 10 [3],
 N 10 11 [4],
 o (.mkFn (.func 141) [(t 1)]) 12 [],
 o (.callS 140 [(t 11),(t 12)]) 13 [5,6],
 m 13 4 (k [7,7] 7)]
def d80r1:ai:=O1.map bare
def d80r2:ai:=[
 n 4 14,
 m 14 5 [0,0]]
def Ll:ai:=[
 n 5 15,
 l 1 16 [],
 c 16 17 [1],
 a 4 17 18 [2],
 a 1 18 19 [3],
 l 19 20 [4],
 N 20 21 [5],
 b .lss 15 21 22 [0,6],
 m 22 23 [7],
 v 1 24 23 true [8],
 g (.nilCheck (t 24)) 25 23 true [9,8],
 u 4 25 26 23 true [10,8],
 u 1 26 27 23 true [11,8],
 v 27 28 23 true [12,8],
 w 5 29 23 true [8],
 g (.idxAddr 5 (t 28) (t 29)) 30 23 true [13,14,8],
 u 0 30 31 23 true [15,8],
 v 31 32 23 true [16,8],
 v 1 33 23 true [8],
 g (.nilCheck (t 33)) 34 23 true [18,8],
 u 10 34 35 23 true [19,8],
 v 35 36 23 true [20,8],
 D .eql 32 36 37 23 true [17,21,8],
 q 23 37 38 [8,22],
 m 38 39 [23,8],
 v 1 40 39 true [24],
 g (.nilCheck (t 40)) 41 39 true [25,24],
 u 4 41 42 39 true [26,24],
 u 1 42 43 39 true [27,24],
 v 43 44 39 true [28,24],
 w 5 45 39 true [24],
 g (.idxAddr 5 (t 44) (t 45)) 46 39 true [29,30,24],
 u 1 46 47 39 true [31,24],
 v 47 48 39 true [32,24],
 v 1 49 39 true [24],
 g (.nilCheck (t 49)) 50 39 true [34,24],
 u 11 50 51 39 true [35,24],
 v 51 52 39 true [36,24],
 D .eql 48 52 53 39 true [33,37,24],
 q 39 53 54 [24,38]]
def d80r4:ai:=[
 n 5 55,
 C .add 55 1 56 [0],
 m 56 5 [1,0,1]]
def d80r5:ai:=[
 n 4 57,
 n 5 58,
 m 57 2 [0,0],
 m 58 3 [1,2,0,1,2]]
def d80:DC:=(j (y d80r0) (j (y d80r1) (j (y d80r2) (j (.block 0 (.loop (j (j (Y Ll) (.cond (.tmp 54) .skip (.exit 0))) (.block 1 (y d80r4))))) (j (y d80r5) .ret)))))
def Z0:List bV:=[.da 2,.da 3]
def c80 [bI]:aB aj 119 59 d80 Z0:=aB.of Tryz.f119 (by kernel_rfl)
def d57r0:ai:=[
 B 1 4]
def d57r1:ai:=[
 a 0 4 10 [],
 l 10 11 [0]]
def d57r2:ai:=[
 C .eql 11 1 13 [],
 m 13 12 [0]]
def d57r3:ai:=[
 n 0 14,
 c 14 15 [0],
 a 10 15 16 [1],
 l 16 17 [2],
 n 0 18,
 c 18 19 [4],
 a 11 19 20 [5],
 l 20 21 [6],
 b .eql 17 21 22 [3,7]]
def d57r4:ai:=[
 n 2 23,
 n 0 24,
 c 24 25 [1],
 a 10 25 26 [2],
 l 26 27 [3],
 a 4 4 28 [],
 l 28 29 [5],
 o (.callv (t 23) [(t 27),(t 29),(.gN .aW)]) 30 [0,4,6]]
def d57r5:ai:=[
 C .eql 11 2 32 [],
 m 32 31 [0]]
def O2:ai:=[
 n 0 34,
 o (.callS 119 [(t 34)]) 35 [0],
 m 35 33 [1],
 e 0 33 36 [2],
 e 1 33 37 [2],
 m 36 6 [3,1,0,1,2,3],
 m 37 7 (k [4,5] 5)]
def d57r6:ai:=O2.map bare
def d57r7:ai:=[
 n 6 38,
 m 38 8 [0,0]]
def d57r8:ai:=[
 n 8 39,
 n 7 40,
 b .lss 39 40 41 [0,1]]
def Z1:ai:=[
 n 0 44,
 c 44 45 [0],
 a 4 45 46 [1],
 a 1 46 47 [2],
 l 47 48 [3],
 n 8 49,
 x 5 48 49 50 [4,5],
 a 2 50 51 [6],
 l 51 52 [7],
 a 2 4 53 [],
 l 53 54 [9],
 b .eql 52 54 55 [8,10],
 m 55 56 [11],
 w 2 57 56 true [12],
 w 8 58 56 true [12],
 u 4 4 59 56 true [12],
 v 59 60 56 true [15,12],
 w 0 61 56 true [12],
 g (.nilCheck (t 61)) 62 56 true [17,12],
 u 4 62 63 56 true [18,12],
 u 1 63 64 56 true [19,12],
 v 64 65 56 true [20,12],
 w 8 66 56 true [12],
 g (.idxAddr 5 (t 65) (t 66)) 67 56 true [21,22,12],
 u 3 67 68 56 true [23,12],
 v 68 69 56 true [24,12],
 D .add 60 69 70 56 true [16,25,12],
 g (.callv (t 57) [(t 58),(t 70),(.gN .aW)]) 71 56 true [13,14,26,12,12],
 K 71 72 56 true [27,12],
 q 56 72 73 [12,28]]
def O3:ai:=[
 n 8 42,
 C .add 42 1 43 [0],
 m 43 8 [1,0,1]]
def Z2:ai:=[
 C .eql 11 3 75 [],
 m 75 74 [0]]
def Z3:ai:=[
 n 2 76,
 n 0 77,
 c 77 78 [1],
 a 10 78 79 [2],
 l 79 80 [3],
 a 4 4 81 [],
 l 81 82 [5],
 a 2 4 83 [],
 l 83 84 [7],
 n 0 85,
 c 85 86 [9],
 a 10 86 87 [10],
 l 87 88 [11],
 n 0 89,
 c 89 90 [13],
 a 11 90 91 [14],
 l 91 92 [15],
 o (.build [V 0,V 0,V 0] [(0,1,(t 84)),(1,1,(t 88)),(2,1,(t 92))]) 93 [8,12,16],
 o (.bslice 1 3 [V 0,V 0,V 0] [(0,3,(t 93))]) 94 [17],
 o (.callv (t 76) [(t 80),(t 82),(t 94)]) 95 [0,4,6,18]]
def Z4:ai:=[
 C .eql 11 4 97 [],
 m 97 96 [0]]
def Z5:ai:=[
 n 0 98,
 c 98 99 [0],
 a 10 99 100 [1],
 l 100 101 [2],
 m 101 9 [3,0,1,2,3]]
def Z6:ai:=[
 n 9 102,
 n 0 103,
 c 103 104 [1],
 a 11 104 105 [2],
 l 105 106 [3],
 b .leq 102 106 107 [0,4]]
def Z7:ai:=[
 n 2 110,
 n 9 111,
 a 4 4 112 [],
 l 112 113 [2],
 a 2 4 114 [],
 l 114 115 [4],
 n 0 116,
 c 116 117 [6],
 a 10 117 118 [7],
 l 118 119 [8],
 n 9 120,
 o (.build [V 0,V 0,V 0] [(0,1,(t 115)),(1,1,(t 119)),(2,1,(t 120))]) 121 [5,9,10],
 a 3 4 122 [],
 l 122 123 [12],
 n 9 124,
 n 0 125,
 c 125 126 [15],
 a 11 126 127 [16],
 l 127 128 [17],
 o (.build [V 0,V 0,V 0] [(0,1,(t 123)),(1,1,(t 124)),(2,1,(t 128))]) 129 [13,14,18],
 o (.bslice 2 3 [V 0,V 0,V 0,V 0,V 0,V 0] [(0,3,(t 121)),(3,3,(t 129))]) 130 [11,19],
 o (.callv (t 110) [(t 111),(t 113),(t 130)]) 131 [0,1,3,20],
 U 131 132 [21]]
def Z8:ai:=[
 n 9 108,
 C .add 108 1 109 [0],
 m 109 9 [1,0,1]]
def d57:DC:=(j (y d57r0) (j (y d57r1) (.block 0 (j (y d57r2) (.cond (.tmp 12) (j (Y d57r3) (.cond (.tmp 22) (Y d57r4) .skip)) (j (y d57r5) (.cond (.tmp 31) (j (y d57r6) (j (y d57r7) (.block 1 (.loop (j (j (y d57r8) (.cond (.tmp 41) .skip (.exit 1))) (j (.block 2 (j (Y Z1) (.cond (.tmp 73) .ret .skip))) (y O3))))))) (j (y Z2) (.cond (.tmp 74) (Y Z3) (j (y Z4) (.cond (.tmp 96) (j (y Z5) (.block 3 (.loop (j (j (y Z6) (.cond (.tmp 107) .skip (.exit 3))) (j (.block 4 (j (Y Z7) (.cond (.tmp 132) .ret .skip))) (y Z8)))))) .skip)))))))))))
def sG:List bV:=[]
def c57 [bI]:aB aj 85 133 d57 sG:=aB.of Tryz.f85 (by kernel_rfl)
def d87r0:ai:=[
 B 1 4]
def d87r1:ai:=[
 a 0 4 8 [],
 l 8 9 [0],
 C .neq 9 4 10 [1]]
def O4:ai:=[
 n 0 11,
 L 6 4 12 [],
 n 2 13,
 o (.callS 85 [(t 11),(t 12),(t 13)]) 14 [0,1,2]]
def d87r2:ai:=O4.map bare
def d87r3:ai:=[
 n 0 15,
 c 15 16 [0],
 a 10 16 17 [1],
 l 17 18 [2],
 n 0 19,
 c 19 20 [4],
 a 11 20 21 [5],
 l 21 22 [6],
 o (.bslice 2 1 [V 0,V 0] [(0,1,(t 18)),(1,1,(t 22))]) 23 [3,7],
 N 23 24 [8],
 I 0 25]
def d87r4:ai:=[
 b .lss 25 24 26 []]
def d87r5:ai:=[
 x 1 23 25 27 [],
 l 27 28 [0],
 m 28 7 [1,0,1]]
def d87r6:ai:=[
 n 2 29,
 n 7 30,
 a 4 4 31 [],
 l 31 32 [2],
 a 2 4 33 [],
 l 33 34 [4],
 n 0 35,
 c 35 36 [6],
 a 10 36 37 [7],
 l 37 38 [8],
 n 7 39,
 o (.build [V 0,V 0,V 0] [(0,1,(t 34)),(1,1,(t 38)),(2,1,(t 39))]) 40 [5,9,10],
 a 3 4 41 [],
 l 41 42 [12],
 n 7 43,
 n 0 44,
 c 44 45 [15],
 a 11 45 46 [16],
 l 46 47 [17],
 o (.build [V 0,V 0,V 0] [(0,1,(t 42)),(1,1,(t 43)),(2,1,(t 47))]) 48 [13,14,18],
 o (.bslice 2 3 [V 0,V 0,V 0,V 0,V 0,V 0] [(0,3,(t 40)),(3,3,(t 48))]) 49 [11,19],
 o (.callv (t 29) [(t 30),(t 32),(t 49)]) 50 [0,1,3,20]]
def d87r7:ai:=[
 C .add 25 1 51 [],
 m 51 25 [0]]
def d87:DC:=(j (y d87r0) (j (j (y d87r1) (.cond (.tmp 10) (j (y d87r2) .ret) .skip)) (j (Y d87r3) (.block 0 (.loop (j (y d87r4) (j (.cond (.tmp 26) .skip (.exit 0)) (j (.block 1 (j (y d87r5) (Y d87r6))) (y d87r7)))))))))
def O5:List bV:=[]
def c87 [bI]:aB aj 126 52 d87 O5:=aB.of Tryz.f126 (by kernel_rfl)
def Lm:ai:=[
 F 8]
def wj:ai:=[
 l 3 9 [],
 n 2 10,
 o (.call 87 [(t 9),(t 10)]) 11 [0,1],
 U 11 12 [2]]
def Z9:ai:=[
 l 3 9 [],
 n 2 10,
 o (.callS 87 [(t 9),(t 10)]) 11 [0,1],
 U 11 12 [2]]
def Ri:ai:=[
 l 3 13 [],
 a 1 4 14 [],
 l 14 15 [1],
 l 3 16 [],
 n 1 17,
 n 2 18,
 o (.call 89 [(t 16),(t 17),(t 18)]) 19 [3,4,5],
 o (.call 88 [(t 13),(t 15),(t 19)]) 20 [0,2,6,6]]
def aaa:ai:=[
 l 3 13 [],
 a 1 4 14 [],
 l 14 15 [1],
 l 3 16 [],
 n 1 17,
 n 2 18,
 o (.callS 89 [(t 16),(t 17),(t 18)]) 19 [3,4,5],
 o (.callS 88 [(t 13),(t 15),(t 19)]) 20 [0,2,6,6]]
def GW:ai:=[
 R 8]
def d58:DC:=(j (y Lm) (j (j (y wj) (.cond (.tmp 12) (Y Ri) .skip)) (j (y GW) .ret)))
def uI:List bV:=[.da 8]
def c58 [bI]:aB aj 86 21 d58 uI:=aB.of Tryz.f86 (by kernel_rfl)
def d88r0:ai:=[
 F 8]
def Ek:ai:=[
 l 3 9 [],
 n 2 10,
 o (.callS 87 [(t 9),(t 10)]) 11 [0,1],
 m 11 12 [2,2],
 v 3 13 12 true [3],
 w 2 14 12 true [3],
 g (.callS 128 [(t 13),(t 14)]) 15 12 true [4,5,3,3],
 q 12 15 16 [3,6]]
def d88r1:ai:=Ek.map bare
def O6:ai:=[
 l 3 17 [],
 a 1 4 18 [],
 l 18 19 [1],
 l 3 20 [],
 n 1 21,
 n 2 22,
 o (.callS 89 [(t 20),(t 21),(t 22)]) 23 [3,4,5],
 o (.callS 88 [(t 17),(t 19),(t 23)]) 24 [0,2,6,6]]
def d88r2:ai:=O6.map bare
def Rj:ai:=[
 R 8]
def d88:DC:=(j (y d88r0) (j (j (y d88r1) (.cond (.tmp 16) (Y d88r2) .skip)) (j (y Rj) .ret)))
def IF:List bV:=[.da 8]
def c88 [bI]:aB aj 127 25 d88 IF:=aB.of Tryz.f127 (by kernel_rfl)
def d62r0:ai:=[
 B 0 1]
def El:ai:=[
 l 1 7 [],
 c 7 8 [0],
 a 15 8 9 [1],
 l 9 10 [2],
 o (.callS 124 [(t 10)]) 11 [3],
 m 11 6 [4],
 e 0 6 12 [5],
 e 1 6 13 [5],
 m 12 2 (k [6,4] 6),
 m 13 3 (k [7,8] 8)]
def d62r1:ai:=El.map bare
def aab:ai:=[
 n 3 14,
 U 14 15 [0]]
def d62r3:ai:=[
 l 1 16 [],
 c 16 17 [0],
 a 13 17 18 [1],
 l 18 19 [2],
 n 2 20,
 x 1 19 20 21 (k [3,4] 4),
 s (.store 1 (t 21) (.gN (.v (.bool true)))) (k [5] 4)]
def d62r4:ai:=[
 l 1 22 [],
 c 22 23 [0],
 a 0 23 24 [1],
 a 3 24 25 [2],
 l 25 26 [3],
 N 26 27 [4],
 I 0 28]
def d62r5:ai:=[
 b .lss 28 27 29 []]
def d62r6:ai:=[
 x 6 26 28 30 [],
 L 6 30 31 [0],
 o (.alloc [V 0,V 0,V 0,V 0,V 0,V 0]) 5 [],
 S 6 5 31 [2,1,0,1,2]]
def d62r7:ai:=[
 L 6 5 32 [],
 n 2 33,
 o (.call 125 [(t 32),(t 33)]) 34 [0,1],
 U 34 35 [2]]
def O7:ai:=[
 l 1 36 [],
 L 6 5 37 [],
 o (.mkFn (.func 127) [(t 1),(t 5)]) 38 [],
 o (.callS 126 [(t 36),(t 37),(t 38)]) 39 [0,1,2]]
def d62r8:ai:=O7.map bare
def aac:ai:=[
 C .add 28 1 40 [],
 m 40 28 [0]]
def d62:DC:=(j (y d62r0) (.block 0 (.loop (.block 1 (j (y d62r1) (j (j (y aab) (.cond (.tmp 15) .ret .skip)) (j (y d62r3) (j (y d62r4) (.block 2 (.loop (j (y d62r5) (j (.cond (.tmp 29) .skip (.exit 2)) (j (.block 3 (j (y d62r6) (j (j (y d62r7) (.cond (.tmp 35) (.exit 3) .skip)) (y d62r8)))) (y aac))))))))))))))
def aad:List bV:=[]
def c62 [bI]:aB aj 90 41 d62 aad:=aB.of Tryz.f90 (by kernel_rfl)
def d90r0:ai:=[
 F 10]
def O8:ai:=[
 l 3 11 [],
 n 1 12,
 n 2 13,
 o (.callS 89 [(t 11),(t 12),(t 13)]) 14 [0,1,2],
 L 2 4 15 [],
 o (.eqT true true [(.int .i64),(.int .i64)] (t 14) (t 15)) 16 [3,4]]
def d90r1:ai:=O8.map bare
def d90r2:ai:=[
 R 10]
def d90r3:ai:=[
 L 2 4 17 [],
 l 5 18 [],
 n 0 19,
 o (.build [V 0,V 0,V 0,V 0] [(0,2,(t 17)),(2,1,(t 18)),(3,1,(t 19))]) 20 [0,1,2],
 S 4 6 20 [3,0,1,2,3]]
def d90r4:ai:=[
 F 10]
def d90:DC:=(j (y d90r0) (j (j (Y d90r1) (.cond (.tmp 16) (j (y d90r2) .ret) .skip)) (j (y d90r3) (j (y d90r4) .ret))))
def O9:List bV:=[.da 10]
def c90 [bI]:aB aj 129 21 d90 O9:=aB.of Tryz.f129 (by kernel_rfl)
def d63r0:ai:=[
 B 0 2,
 o (.alloc [V 0,V 0,V 0,V 0]) 4 []]
def d63r1:ai:=[
 l 2 9 [],
 c 9 10 [0],
 a 12 10 11 [1],
 l 11 12 [2],
 n 1 13,
 x 2 12 13 14 [3,4],
 L 2 14 15 [5],
 o (.alloc [V 0,V 0]) 5 [],
 S 2 5 15 (k [7,6] 7)]
def d63r2:ai:=[
 o (.load 4 true (.gN (.iD [(.int .i64 1099511627776),(.int .i64 0),(.int .i64 (-1)),(.int .i64 0)] 0))) 16 [],
 o (.alloc [V 0,V 0,V 0,V 0]) 6 [],
 S 4 6 16 [1,0,0,1]]
def d63r3:ai:=[
 l 2 17 [],
 c 17 18 [0],
 a 0 18 19 [1],
 a 3 19 20 [2],
 l 20 21 [3],
 N 21 22 [4],
 I 0 23]
def d63r4:ai:=[
 b .lss 23 22 24 []]
def d63r5:ai:=[
 n 23 25,
 x 6 21 23 26 [],
 L 6 26 27 [1],
 o (.alloc [V 0]) 7 [],
 o (.alloc [V 0,V 0,V 0,V 0,V 0,V 0]) 8 [],
 S 1 7 25 (k [3,0] 4),
 S 6 8 27 (k [4,2,5] 5)]
def Ln:ai:=[
 a 1 8 28 [],
 l 28 29 [0],
 n 1 30,
 b .neq 29 30 31 [1,2],
 m 31 32 [3],
 u 0 5 33 32 false [4],
 v 33 34 32 false [5,4],
 E .geq 34 1099511627776 35 32 false [6,4],
 p 32 35 36 [4,7],
 m 36 37 [8,4],
 u 2 6 38 37 false [9],
 v 38 39 37 false [10,9],
 E .geq 39 0 40 37 false [11,9],
 p 37 40 41 [9,12]]
def Pa:ai:=[
 l 2 42 [],
 L 6 8 43 [],
 o (.mkFn (.func 129) [(t 2),(t 5),(t 7),(t 6)]) 44 [],
 o (.callS 85 [(t 42),(t 43),(t 44)]) 45 [0,1,2]]
def d63r7:ai:=Pa.map bare
def aae:ai:=[
 C .add 23 1 46 [],
 m 46 23 [0]]
def d63r9:ai:=[
 L 4 6 47 [],
 S 4 4 47 [0,0]]
def d63:DC:=(j (y d63r0) (j (y d63r1) (j (y d63r2) (j (j (y d63r3) (.block 0 (.loop (j (y d63r4) (j (.cond (.tmp 24) .skip (.exit 0)) (j (.block 1 (j (y d63r5) (j (j (y Ln) (.cond (.tmp 41) (.exit 1) .skip)) (y d63r7)))) (y aae))))))) (j (y d63r9) .ret)))))
def aaf:List bV:=[.cell 4 4 true]
def c63:aB aj 91 48 d63 aaf:=aB.of Tryz.f91 (by kernel_rfl)
def d55r0:ai:=[
 F 5]
def d55r1:ai:=[
 l 2 6 [],
 c 6 7 [0],
 a 12 7 8 [1],
 l 8 9 [2],
 n 0 10,
 x 2 9 10 11 [3,4],
 L 2 11 12 [5],
 l 2 13 [],
 c 13 14 [7],
 a 12 14 15 [8],
 l 15 16 [9],
 n 1 17,
 x 2 16 17 18 [10,11],
 L 2 18 19 [12],
 o (.call 84 [(t 12),(t 19)]) 20 [6,13],
 m 20 5 (k [14,14] 14)]
def d55:DC:=(j (y d55r0) (j (Y d55r1) .ret))
def aag:List bV:=[.da 5]
def c55 [bI]:aB aj 83 21 d55 aag:=aB.of Tryz.f83 (by kernel_rfl)
def d35r0:ai:=[
 B 0 5,
 B 1 6,
 B 2 7,
 Z 10]
def d35r1:ai:=[
 L 4 5 17 [],
 L 3 6 18 [],
 L 3 7 19 [],
 n 3 20,
 n 4 21,
 a 1 5 22 [],
 l 22 23 [5],
 o (.mkSlice 63 2 16 [(.int .i64 0),(.int .i64 0)] (t 23)) 24 [6,6],
 a 1 5 25 [],
 l 25 26 [8],
 o (.mkSlice 4 1 1 [(.bool false)] (t 26)) 27 [9,9],
 a 1 5 28 [],
 l 28 29 [11],
 o (.mkSlice 3 1 8 [(.int .i64 0)] (t 29)) 30 [12,12],
 o (.build [V 0,V 0,V 0,.aW,V 0,.aW,.aW,V 0,V 0,.aW,V 0,V 0,.aW,.aW,.aW,(.v (.mg (Go.Value.pointer Option.none)))] [(0,4,(t 17)),(4,3,(t 18)),(7,3,(t 19)),(10,1,(t 20)),(11,1,(t 21)),(12,1,(t 24)),(13,1,(t 27)),(14,1,(t 30))]) 31 [0,1,2,3,4,7,10,13],
 o (.box (t 31)) 32 [14],
 o (.alloc [(.v (.mg (Go.Value.pointer Option.none)))]) 11 [],
 S 1 11 32 (k [16,15] 16)]
def Rk:ai:=[
 l 11 33 [],
 o (.mkFn (.func 83) [(t 11)]) 34 [],
 o (.call 82 [(t 34)]) 35 [1],
 c 33 36 [0,0,1,2],
 a 15 36 37 [3,0,1,2],
 S 1 37 35 [4,2,2,0,1,2]]
def d35r3:ai:=[
 l 11 38 [],
 c 38 39 [0],
 a 12 39 40 [1],
 l 40 41 [2],
 N 41 42 [3],
 I 0 43]
def d35r4:ai:=[
 b .lss 43 42 44 []]
def d35r5:ai:=[
 n 43 45,
 m 45 12 [0,0]]
def d35r6:ai:=[
 l 11 46 [],
 c 46 47 [0],
 a 12 47 48 [1],
 l 48 49 [2],
 n 12 50,
 o (.addOff 0 (.gN (.iD [(.int .i64 1099511627776),(.int .i64 0),(.int .i64 (-1)),(.int .i64 0)] 0))) 51 [],
 L 2 51 52 [5],
 x 2 49 50 53 (k [3,4] 6),
 S 2 53 52 (k [7,6] 6)]
def d35r7:ai:=[
 l 11 54 [],
 c 54 55 [0],
 a 14 55 56 [1],
 l 56 57 [2],
 n 12 58,
 x 1 57 58 59 (k [3,4] 4),
 s (.store 1 (t 59) (i (-1))) (k [5] 4)]
def d35r8:ai:=[
 C .add 43 1 60 [],
 m 60 43 [0]]
def d35r9:ai:=[
 a 3 5 61 [],
 l 61 62 [0],
 N 62 63 [1],
 I 0 64]
def aah:ai:=[
 b .lss 64 63 65 []]
def aai:ai:=[
 x 6 62 64 66 [],
 L 6 66 67 [0],
 o (.alloc [V 0,V 0,V 0,V 0,V 0,V 0]) 14 [],
 S 6 14 67 [2,1,0,1,2]]
def IG:ai:=[
 l 11 68 [],
 L 6 14 69 [],
 o (.mkFn (.func 86) [(t 11),(t 14)]) 70 [],
 o (.callS 85 [(t 68),(t 69),(t 70)]) 71 [0,1,2]]
def d35r12:ai:=IG.map bare
def aaj:ai:=[
 C .add 64 1 72 [],
 m 72 64 [0]]
def IH:ai:=[
 l 11 73 [],
 o (.callS 90 [(t 73)]) 74 [0]]
def d35r14:ai:=IH.map bare
def aak:ai:=[
 Z 15]
def aal:ai:=[
 a 1 5 75 [],
 l 75 76 [0],
 I 0 77]
def aam:ai:=[
 b .lss 77 76 78 []]
def aan:ai:=[
 n 77 79,
 m 79 16 [0,0]]
def II:ai:=[
 n 15 80,
 l 11 81 [],
 n 16 82,
 o (.callS 91 [(t 81),(t 82)]) 83 [1,2],
 o (.bslice 1 4 [V 0,V 0,V 0,V 0] [(0,4,(t 83))]) 84 [3],
 o (.append 65 4 32 (t 80) (t 84)) 85 [0,4,3],
 m 85 15 (k [5,5] 5)]
def d35r19:ai:=II.map bare
def aao:ai:=[
 C .add 77 1 86 [],
 m 86 77 [0]]
def aap:ai:=[
 n 15 87,
 m 87 10 [0,0]]
def d35:DC:=(j (y d35r0) (j (Y d35r1) (j (Y Rk) (j (j (y d35r3) (.block 0 (.loop (j (y d35r4) (j (.cond (.tmp 44) .skip (.exit 0)) (j (.block 1 (j (y d35r5) (j (Y d35r6) (y d35r7)))) (y d35r8))))))) (j (j (y d35r9) (.block 2 (.loop (j (y aah) (j (.cond (.tmp 65) .skip (.exit 2)) (j (.block 3 (j (y aai) (y d35r12))) (y aaj))))))) (j (y d35r14) (j (y aak) (j (j (y aal) (.block 4 (.loop (j (y aam) (j (.cond (.tmp 78) .skip (.exit 4)) (j (.block 5 (j (y aan) (y d35r19))) (y aao))))))) (j (y aap) .ret)))))))))
def d35res:List bV:=[.da 10]
def c35:aB aj 52 88 d35 d35res:=aB.of Tryz.f52 (by kernel_rfl)
end cC
end Go.Proofs
namespace Go.Proofs
open Go.DM
def d28r0:ai:=[
 B 0 2,
 F 4]
def BR:ai:=[
 n 1 6,
 C .lss 6 0 7 [0],
 m 7 8 [1],
 u 0 2 9 8 false [2],
 v 9 10 8 false [3,2],
 H 10 11 8 false [4,2],
 E .gtr 11 60 12 8 false [5,2],
 p 8 12 13 [2,6],
 m 13 14 [7,2],
 u 1 2 15 14 false [8],
 v 15 16 14 false [9,8],
 H 16 17 14 false [10,8],
 w 1 18 14 false [8],
 D .neq 17 18 19 14 false [11,12,8],
 p 14 19 20 [8,13],
 m 20 21 [14,8],
 u 2 2 22 21 false [15],
 v 22 23 21 false [16,15],
 E .lss 23 0 24 21 false [17,15],
 p 21 24 25 [15,18],
 m 25 26 [19,15],
 u 2 2 27 26 false [20],
 v 27 28 26 false [21,20],
 E .gtr 28 60000 29 26 false [22,20],
 p 26 29 30 [20,23],
 m 30 31 [24,20],
 u 0 2 32 31 false [25],
 v 32 33 31 false [26,25],
 w 1 34 31 false [25],
 g (.call 37 [(t 33),(t 34)]) 35 31 false [27,28,25,25],
 K 35 36 31 false [29,25],
 p 31 36 37 [25,30]]
def d28r2:ai:=[
 F 4]
def d28r3:ai:=[
 I 0 5]
def d28r4:ai:=[
 n 5 38,
 n 1 39,
 b .lss 38 39 40 [0,1]]
def d28r5:ai:=[
 a 1 2 43 [],
 l 43 44 [0],
 n 5 45,
 x 1 44 45 46 [1,2],
 l 46 47 [3],
 C .lss 47 1 48 [4],
 m 48 49 [5],
 u 1 2 50 49 false [6],
 v 50 51 49 false [7,6],
 w 5 52 49 false [6],
 g (.idxAddr 1 (t 51) (t 52)) 53 49 false [8,9,6],
 v 53 54 49 false [10,6],
 E .gtr 54 60000 55 49 false [11,6],
 p 49 55 56 [6,12]]
def d28r6:ai:=[
 F 4]
def d28r7:ai:=[
 n 5 41,
 C .add 41 1 42 [0],
 m 42 5 [1,0,1]]
def d28r8:ai:=[
 R 4]
def d28:DC:=(j (y d28r0) (j (j (y BR) (.cond (.tmp 37) (j (y d28r2) .ret) .skip)) (j (j (y d28r3) (.block 0 (.loop (j (j (y d28r4) (.cond (.tmp 40) .skip (.exit 0))) (j (.block 1 (j (y d28r5) (.cond (.tmp 56) (j (y d28r6) .ret) .skip))) (y d28r7)))))) (j (y d28r8) .ret))))
def Jr:List bV:=[.da 4]
def c28 [bI]:aB aj 23 57 d28 Jr:=aB.of Tryz.f23 (by kernel_rfl)
def K8:ai:=[
 F 4]
def Ed:ai:=[
 I 0 5]
def K9:ai:=[
 n 5 6,
 n 0 7,
 N 7 8 [1],
 b .lss 6 8 9 [0,2]]
def La:ai:=[
 n 0 12,
 n 5 13,
 x 3 12 13 14 [0,1],
 L 3 14 15 [2],
 n 1 16,
 o (.call 63 [(t 15),(t 16)]) 17 [3,4],
 U 17 18 [5]]
def Lb:ai:=[
 F 4]
def d45r5:ai:=[
 n 5 10,
 C .add 10 1 11 [0],
 m 11 5 [1,0,1]]
def d45r6:ai:=[
 R 4]
def d45:DC:=(j (y K8) (j (j (y Ed) (.block 0 (.loop (j (j (y K9) (.cond (.tmp 9) .skip (.exit 0))) (j (.block 1 (j (y La) (.cond (.tmp 18) (j (y Lb) .ret) .skip))) (y d45r5)))))) (j (y d45r6) .ret)))
def wT:List bV:=[.da 4]
def c45 [bI]:aB aj 37 19 d45 wT:=aB.of Tryz.f37 (by kernel_rfl)
def Lm:ai:=[
 B 0 2,
 F 4]
def wj:ai:=[
 a 0 2 7 [],
 l 7 8 [0],
 C .lss 8 (-1) 9 [1],
 m 9 10 [2],
 u 0 2 11 10 false [3],
 v 11 12 10 false [4,3],
 w 1 13 10 false [3],
 D .geq 12 13 14 10 false [5,6,3],
 p 10 14 15 [3,7],
 m 15 16 [8,3],
 u 1 2 17 16 false [9],
 v 17 18 16 false [10,9],
 H 18 19 16 false [11,9],
 w 1 20 16 false [9],
 D .neq 19 20 21 16 false [12,13,9],
 p 16 21 22 [9,14],
 m 22 23 [15,9],
 u 2 2 24 23 false [16],
 v 24 25 23 false [17,16],
 E .lss 25 1 26 23 false [18,16],
 p 23 26 27 [16,19],
 m 27 28 [20,16],
 u 2 2 29 28 false [21],
 v 29 30 28 false [22,21],
 E .gtr 30 60000 31 28 false [23,21],
 w 31 32 28 false [24,21,21],
 u 2 2 33 32 true [25],
 v 33 34 32 true [26,25],
 E .neq 34 1099511627776 35 32 true [27,25],
 g (.pick (t 32) (t 35) (.gN (.v (.bool false)))) 36 28 false [25,28,21],
 p 28 36 37 [21,29]]
def Ri:ai:=[
 F 4]
def GW:ai:=[
 I 0 5]
def d58r4:ai:=[
 n 5 38,
 n 1 39,
 b .lss 38 39 40 [0,1]]
def d58r5:ai:=[
 a 1 2 43 [],
 l 43 44 [0],
 n 5 45,
 x 1 44 45 46 [1,2],
 l 46 47 [3],
 m 47 6 (k [4] 4)]
def Ft:ai:=[
 n 5 48,
 a 0 2 49 [],
 l 49 50 [1],
 b .eql 48 50 51 [0,2],
 m 51 52 [3],
 w 6 53 52 true [4],
 E .neq 53 0 54 52 true [5,4],
 q 52 54 55 [4,6],
 m 55 56 [7,4],
 w 5 57 56 false [8],
 u 0 2 58 56 false [8],
 v 58 59 56 false [10,8],
 D .neq 57 59 60 56 false [9,11,8],
 w 60 61 56 false [12,8,8],
 w 6 62 61 true [13],
 E .neq 62 (-1) 63 61 true [14,13],
 g (.pick (t 61) (t 63) (.gN (.v (.bool false)))) 64 56 false [13,15,8],
 w 64 65 56 false [16,13,8],
 w 6 66 65 true [17],
 E .lss 66 1 67 65 true [18,17],
 w 67 68 65 true [19,17,17],
 w 6 69 68 false [20],
 E .gtr 69 60000 70 68 false [21,20],
 g (.pick (t 68) (.gN (.v (.bool true))) (t 70)) 71 65 true [20,22,17],
 g (.pick (t 65) (t 71) (.gN (.v (.bool false)))) 72 56 false [17,23,8],
 p 56 72 73 [8,24]]
def d58r7:ai:=[
 F 4]
def d58r8:ai:=[
 n 5 41,
 C .add 41 1 42 [0],
 m 42 5 [1,0,1]]
def d58r9:ai:=[
 R 4]
def d58:DC:=(j (y Lm) (j (j (y wj) (.cond (.tmp 37) (j (y Ri) .ret) .skip)) (j (j (y GW) (.block 0 (.loop (j (j (y d58r4) (.cond (.tmp 40) .skip (.exit 0))) (j (.block 1 (j (y d58r5) (j (y Ft) (.cond (.tmp 73) (j (y d58r7) .ret) .skip)))) (y d58r8)))))) (j (y d58r9) .ret))))
def uI:List bV:=[.da 4]
def c58 [bI]:aB aj 63 74 d58 uI:=aB.of Tryz.f63 (by kernel_rfl)
namespace cC
def Rl:ai:=[
 B 0 1,
 Z 2,
 o (.qu (.gN .aW)) 3 [1]]
def d1071r1:ai:=[
 L 2 1 17 [],
 a 0 1 18 [],
 l 18 19 [1],
 o (.mkSlice 63 2 16 [(.int .i64 0),(.int .i64 0)] (t 19)) 20 [2,2],
 a 0 1 21 [],
 l 21 22 [4],
 o (.mkSlice 4 1 1 [(.bool false)] (t 22)) 23 [5,5],
 a 1 1 24 [],
 l 24 25 [7],
 N 25 26 [8],
 o (.mkSlice 3 1 8 [(.int .i64 0)] (t 26)) 27 [9,9],
 a 0 1 28 [],
 l 28 29 [11],
 o (.mkSlice 26 1 24 [(.sl [])] (t 29)) 30 [12,12],
 o (.build [V 0,.aW,.aW,.aW,.aW,.aW,(.v (.mg (Go.Value.pointer Option.none)))] [(0,2,(t 17)),(2,1,(t 20)),(3,1,(t 23)),(4,1,(t 27)),(5,1,(t 30))]) 31 [0,3,6,10,13],
 o (.box (t 31)) 32 [14],
 m 32 4 (k [15] 15)]
def Lo:ai:=[
 L 2 1 17 [],
 a 0 1 18 [],
 l 18 19 [1],
 o (.mkSlice 63 2 16 [(.int .i64 0),(.int .i64 0)] (t 19)) 20 [2,2],
 a 0 1 21 [],
 l 21 22 [4],
 o (.mkSlice 4 1 1 [(.bool false)] (t 22)) 23 [5,5],
 a 1 1 24 [],
 l 24 25 [7],
 N 25 26 [8],
 o (.mkSlice 3 1 8 [(.int .i64 0)] (t 26)) 27 [9,9],
 a 0 1 28 [],
 l 28 29 [11],
 o (.mkSliceB 26 1 24 [(.sl [])] (t 29)) 30 [12,12],
 o (.build [V 0,.aW,.aW,.aW,.aW,.aW,(.v (.mg (Go.Value.pointer Option.none)))] [(0,2,(t 17)),(2,1,(t 20)),(3,1,(t 23)),(4,1,(t 27)),(5,1,(t 30))]) 31 [0,3,6,10,13],
 o (.box (t 31)) 32 [14],
 m 32 4 (k [15] 15)]
def Rm:ai:=[
 n 4 33,
 o (.call 100 [(.gN (.v (.fn (.func 101) [])))]) 34 [],
 c 33 35 [0,0,1],
 a 6 35 36 [2,0,1],
 S 1 36 34 [3,1,1,0,1]]
def Rn:ai:=[
 a 0 1 37 [],
 l 37 38 [0],
 o (.mkSlice 3 1 8 [(.int .i64 0)] (t 38)) 39 [1,1],
 m 39 5 [2,0,1,2]]
def Ro:ai:=[
 n 4 40,
 c 40 41 [0],
 a 2 41 42 [1],
 l 42 43 [2],
 N 43 44 [3],
 I 0 45]
def Rp:ai:=[
 b .lss 45 44 46 []]
def Rq:ai:=[
 n 45 47,
 m 47 6 [0,0]]
def Rr:ai:=[
 n 4 48,
 c 48 49 [0],
 a 2 49 50 [1],
 l 50 51 [2],
 n 6 52,
 o (.build [V 0,V 0] [(0,1,(i 1099511627776))]) 53 [],
 x 2 51 52 54 (k [3,4] 5),
 S 2 54 53 (k [6,5] 5)]
def Rs:ai:=[
 n 5 55,
 n 6 56,
 x 1 55 56 57 [0,1,0,1],
 s (.store 1 (t 57) (i (-1))) [2,0,1]]
def Rt:ai:=[
 C .add 45 1 58 [],
 m 58 45 [0]]
def Em:ai:=[
 a 1 1 59 [],
 l 59 60 [0],
 N 60 61 [1],
 I 0 62]
def En:ai:=[
 b .lss 62 61 63 []]
def Eo:ai:=[
 n 62 64,
 x 5 60 62 65 [],
 L 5 65 66 [1],
 o (.alloc [V 0,.aW,V 0,V 0,V 0]) 8 [],
 m 64 7 [0,0,1,2,3],
 S 5 8 66 (k [3,2,4] 4)]
def Ep:ai:=[
 n 4 67,
 c 67 68 [0],
 a 4 68 69 [1],
 l 69 70 [2],
 n 7 71,
 a 1 8 72 [],
 l 72 73 [5],
 N 73 74 [6],
 x 1 70 71 75 (k [3,4] 7),
 S 1 75 74 (k [8,7] 7)]
def Er:ai:=[
 a 1 8 76 [],
 l 76 77 [0],
 N 77 78 [1],
 I 0 79]
def Es:ai:=[
 b .lss 79 78 80 []]
def Et:ai:=[
 x 1 77 79 81 [],
 l 81 82 [0],
 m 82 10 [1,0,1]]
def qZ:ai:=[
 n 4 83,
 c 83 84 [0],
 a 5 84 85 [1],
 l 85 86 [2],
 n 10 87,
 n 4 88,
 c 88 89 [5],
 a 5 89 90 [6],
 l 90 91 [7],
 n 10 92,
 x 1 91 92 93 [8,9],
 l 93 94 [10],
 n 7 95,
 o (.bslice 1 1 [V 0] [(0,1,(t 95))]) 96 [12],
 o (.append 3 1 8 (t 94) (t 96)) 97 [11,13],
 x 1 86 87 98 (k [3,4] 14),
 S 1 98 97 (k [15,14,14] 14)]
def yO:ai:=[
 C .add 79 1 99 [],
 m 99 79 [0]]
def Eu:ai:=[
 C .add 62 1 100 [],
 m 100 62 [0]]
def Ev:ai:=[
 n 4 101,
 c 101 102 [0],
 a 4 102 103 [1],
 l 103 104 [2],
 N 104 105 [3],
 I 0 106]
def Ew:ai:=[
 b .lss 106 105 107 []]
def Ex:ai:=[
 n 106 108,
 x 1 104 106 109 [],
 l 109 110 [1],
 m 108 11 [0,0,1,2],
 m 110 12 [2,3,0,1,2,3]]
def yP:ai:=[
 n 12 111,
 C .eql 111 0 112 [0],
 m 112 113 [1],
 u 1 1 114 113 true [2],
 v 114 115 113 true [3,2],
 w 11 116 113 true [2],
 g (.idxAddr 5 (t 115) (t 116)) 117 113 true [4,5,2],
 u 1 117 118 113 true [6,2],
 v 118 119 113 true [7,2],
 H 119 120 113 true [8,2],
 E .eql 120 0 121 113 true [9,2],
 q 113 121 122 [2,10]]
def Lp:ai:=[
 n 4 123,
 n 11 124,
 o (.call 102 [(t 123),(t 124)]) 125 [0,1]]
def GX:ai:=[
 n 4 123,
 n 11 124,
 o (.callS 102 [(t 123),(t 124)]) 125 [0,1]]
def yQ:ai:=[
 C .add 106 1 126 [],
 m 126 106 [0]]
def Lq:ai:=[
 n 4 128,
 c 128 129 [0],
 a 6 129 130 [1],
 l 130 131 [2],
 o (.call 103 [(t 131)]) 132 [3],
 m 132 127 [4],
 e 0 127 133 [5],
 e 1 127 134 [5],
 o (.alloc [V 0,V 0,V 0]) 13 [],
 S 3 13 133 [8,6,4,0,1,2,3,4,5,6,8],
 m 134 14 (k [7,9] 9)]
def vu:ai:=[
 n 4 128,
 c 128 129 [0],
 a 6 129 130 [1],
 l 130 131 [2],
 o (.callS 103 [(t 131)]) 132 [3],
 m 132 127 [4],
 e 0 127 133 [5],
 e 1 127 134 [5],
 o (.alloc [V 0,V 0,V 0]) 13 [],
 S 3 13 133 [8,6,4,0,1,2,3,4,5,6,8],
 m 134 14 (k [7,9] 9)]
def yR:ai:=[
 n 14 135,
 U 135 136 [0]]
def Ey:ai:=[
 n 4 137,
 c 137 138 [0],
 a 3 138 139 [1],
 l 139 140 [2],
 a 0 13 141 [],
 l 141 142 [4],
 x 1 140 142 143 [3,5],
 l 143 144 [6],
 U 144 145 [7]]
def Lr:ai:=[
 n 4 146,
 L 3 13 147 [],
 o (.call 104 [(t 146),(t 147)]) 148 [0,1]]
def GY:ai:=[
 n 4 146,
 L 3 13 147 [],
 o (.callS 104 [(t 146),(t 147)]) 148 [0,1]]
def Ez:ai:=[
 a 1 1 149 [],
 l 149 150 [0],
 N 150 151 [1],
 I 0 152]
def EA:ai:=[
 b .lss 152 151 153 []]
def EB:ai:=[
 n 152 154,
 x 5 150 152 155 [],
 L 5 155 156 [1],
 o (.alloc [V 0,.aW,V 0,V 0,V 0]) 16 [],
 m 154 15 [0,0,1,2,3],
 S 5 16 156 (k [3,2,4] 4)]
def Ls:ai:=[
 n 5 157,
 a 0 16 158 [],
 l 158 159 [1],
 x 1 157 159 160 [0,2],
 l 160 161 [3],
 C .lss 161 0 162 [4],
 m 162 163 [5],
 w 4 164 163 true [6],
 g (.nilCheck (t 164)) 165 163 true [7,6],
 u 3 165 166 163 true [8,6],
 v 166 167 163 true [9,6],
 u 0 16 168 163 true [6],
 v 168 169 163 true [11,6],
 g (.idxAddr 1 (t 167) (t 169)) 170 163 true [10,12,6],
 v 170 171 163 true [13,6],
 q 163 171 172 [6,14],
 m 172 173 [15,6],
 w 4 174 173 true [16],
 g (.load 5 true (t 16)) 175 173 true [16],
 g (.call 105 [(t 174),(t 175)]) 176 173 true [17,18,16,16],
 w 4 177 173 true [16],
 g (.nilCheck (t 177)) 178 173 true [20,16],
 u 2 178 179 173 true [21,16],
 v 179 180 173 true [22,16],
 u 0 16 181 173 true [16],
 v 181 182 173 true [24,16],
 g (.idxAddr 2 (t 180) (t 182)) 183 173 true [23,25,16],
 g (.load 2 true (t 183)) 184 173 true [26,16],
 g (.eqT false true [(.int .i64),(.int .i64)] (t 176) (t 184)) 185 173 true [19,27,16],
 q 173 185 186 [16,28]]
def EC:ai:=[
 n 5 187,
 a 0 16 188 [],
 l 188 189 [1],
 n 15 190,
 x 1 187 189 191 [0,2,0,1,2,3],
 S 1 191 190 [4,3,0,1,2,3]]
def yS:ai:=[
 C .add 152 1 192 [],
 m 192 152 [0]]
def ED:ai:=[
 n 4 193,
 c 193 194 [0],
 a 2 194 195 [1],
 l 195 196 [2],
 n 5 197,
 m 196 2 [3,0,1,2,3],
 m 197 3 (k [4,5] 5)]
def d1071:DC:=(j (y Rl) (j (Y d1071r1) (j (y Rm) (j (y Rn) (j (j (y Ro) (.block 0 (.loop (j (y Rp) (j (.cond (.tmp 46) .skip (.exit 0)) (j (.block 1 (j (y Rq) (j (y Rr) (y Rs)))) (y Rt))))))) (j (j (y Em) (.block 2 (.loop (j (y En) (j (.cond (.tmp 63) .skip (.exit 2)) (j (.block 3 (j (y Eo) (j (Y Ep) (j (y Er) (.block 4 (.loop (j (y Es) (j (.cond (.tmp 80) .skip (.exit 4)) (j (.block 5 (j (y Et) (.jr qZ))) (y yO)))))))))) (y Eu))))))) (j (j (y Ev) (.block 6 (.loop (j (y Ew) (j (.cond (.tmp 107) .skip (.exit 6)) (j (.block 7 (j (y Ex) (j (y yP) (.cond (.tmp 122) (y Lp) .skip)))) (y yQ))))))) (j (.block 8 (.loop (.block 9 (j (y Lq) (j (j (y yR) (.cond (.tmp 136) (.exit 8) .skip)) (j (Y Ey) (.cond (.tmp 145) (y Lr) .skip))))))) (j (j (y Ez) (.block 10 (.loop (j (y EA) (j (.cond (.tmp 153) .skip (.exit 10)) (j (.block 11 (j (y EB) (j (Y Ls) (.cond (.tmp 186) (y EC) .skip)))) (y yS))))))) (j (y ED) .ret))))))))))
def q8:List bV:=[.da 2,.da 3]
def c1071 [bI]:aB aj 71 198 d1071 q8:=aB.of Tryz.f71 (by kernel_rfl)
def Ru:ai:=[
 o (.qu (.gN (.v (.mg (Go.Value.pointer Option.none))))) 2 []]
def Rv:ai:=[
 n 0 3,
 o (.mkMap [(.int .i64)] false) 4 [],
 o (.build [(.v (.mg (Go.Value.nilFunc))),.aW,(.v (.mg (Go.Value.map Option.none))),V 0,V 0] [(0,1,(t 3)),(2,1,(t 4))]) 5 [0,1],
 o (.box (t 5)) 6 [2],
 m 6 2 [3,0,1,2,3]]
def d1100:DC:=(j (y Ru) (j (y Rv) .ret))
def aaq:List bV:=[.da 2]
def c1100 [bI]:aB aj 100 7 d1100 aaq:=aB.of Tryz.f100 (by kernel_rfl)
def Rw:ai:=[
 B 0 2,
 B 1 3,
 F 4]
def Rx:ai:=[
 a 1 2 5 [],
 L 2 5 6 [0],
 a 1 3 7 [],
 L 2 7 8 [2],
 o (.call 84 [(t 6),(t 8)]) 9 [1,3],
 m 9 4 (k [4,4] 4)]
def d1101:DC:=(j (y Rw) (j (y Rx) .ret))
def Lt:List bV:=[.da 4]
def c1101 [bI]:aB aj 101 10 d1101 Lt:=aB.of Tryz.f101 (by kernel_rfl)
def Ry:ai:=[
 n 0 6,
 c 6 7 [0],
 a 0 7 8 [1],
 a 1 8 9 [2],
 l 9 10 [3],
 n 1 11,
 x 5 10 11 12 [4,5],
 L 5 12 13 [6],
 o (.alloc [V 0,.aW,V 0,V 0,V 0]) 4 [],
 S 5 4 13 (k [8,7] 8)]
def EE:ai:=[
 n 0 14,
 L 5 4 15 [],
 o (.callS 105 [(t 14),(t 15)]) 16 [0,1],
 o (.alloc [V 0,V 0]) 5 [],
 S 2 5 16 [3,2,2,0,1,2,3]]
def d1102r1:ai:=EE.map bare
def CA:ai:=[
 a 0 5 17 [],
 l 17 18 [0],
 C .lss 18 1099511627776 19 [1],
 m 19 20 [2],
 w 0 21 20 true [3],
 g (.nilCheck (t 21)) 22 20 true [4,3],
 u 3 22 23 20 true [5,3],
 v 23 24 20 true [6,3],
 u 0 4 25 20 true [3],
 v 25 26 20 true [8,3],
 g (.idxAddr 1 (t 24) (t 26)) 27 20 true [7,9,3],
 v 27 28 20 true [10,3],
 K 28 29 20 true [11,3],
 q 20 29 30 [3,12]]
def EF:ai:=[
 n 0 31,
 c 31 32 [0],
 a 6 32 33 [1],
 l 33 34 [2],
 a 0 4 35 [],
 l 35 36 [4],
 L 2 5 37 [],
 o (.build [V 0,V 0,V 0] [(0,1,(t 36)),(1,2,(t 37))]) 38 [5,6],
 o (.callS 132 [(t 34),(t 38)]) 39 [3,7]]
def d1102r3:ai:=EF.map bare
def d1102:DC:=(j (y Ry) (j (y d1102r1) (j (Y CA) (.cond (.tmp 30) (Y d1102r3) .skip))))
def EG:List bV:=[]
def c1102 [bI]:aB aj 102 40 d1102 EG:=aB.of Tryz.f102 (by kernel_rfl)
def Rz:ai:=[
 o (.alloc [V 0,V 0,V 0]) 2 [],
 F 3]
def RA:ai:=[
 n 0 6,
 c 6 7 [0],
 a 1 7 8 [1],
 l 8 9 [2],
 N 9 10 [3],
 C .eql 10 0 11 [4]]
def RB:ai:=[
 o (.alloc [V 0,V 0,V 0]) 12 [],
 c 12 13 [0],
 L 3 13 14 [1],
 S 3 2 14 [2,0,1,2],
 o (.qu (.gN (.v (.bool false)))) 3 [3,0,1,2,3]]
def IJ:ai:=[
 n 0 15,
 c 15 16 [0],
 a 1 16 17 [1],
 l 17 18 [2],
 o (.idxAddr 5 (t 18) (i 0)) 19 [3],
 L 5 19 20 [4],
 n 0 21,
 c 21 22 [6],
 a 1 22 23 [7],
 l 23 24 [8],
 N 24 25 [9],
 C .sub 25 1 26 [10],
 o (.alloc [V 0,V 0,V 0,V 0,V 0]) 4 [],
 S 5 4 20 [12,5,0,1,2,3,4,5,12],
 m 26 5 (k [11,13] 13)]
def EH:ai:=[
 n 0 27,
 n 5 28,
 o (.callS 133 [(t 27),(i 0),(t 28)]) 29 [0,1]]
def d1103r4:ai:=EH.map bare
def RC:ai:=[
 n 0 30,
 n 0 31,
 c 31 32 [1],
 a 1 32 33 [2],
 l 33 34 [3],
 n 5 35,
 o (.slice 5 (t 34) none (some (t 35))) 36 [4,5],
 c 30 37 (k [0] 6),
 a 1 37 38 (k [7] 6),
 S 1 38 36 (k [8,6] 6)]
def RD:ai:=[
 n 0 39,
 c 39 40 [0],
 a 2 40 41 [1],
 l 41 42 [2],
 a 3 4 43 [],
 l 43 44 [4],
 s (.mapDel [(.int .i64)] false (t 42) (t 44)) [3,5]]
def EI:ai:=[
 n 0 45,
 o (.callS 134 [(t 45),(i 0)]) 46 [0]]
def d1103r7:ai:=EI.map bare
def RE:ai:=[
 a 0 4 47 [],
 L 3 47 48 [0],
 S 3 2 48 [1,0,1],
 o (.qu (.gN (.v (.bool true)))) 3 [2,0,1,2]]
def d1103:DC:=(j (y Rz) (j (j (y RA) (.cond (.tmp 11) (j (y RB) .ret) .skip)) (j (.jr IJ) (j (y d1103r4) (j (y RC) (j (Y RD) (j (y d1103r7) (j (y RE) .ret))))))))
def EJ:List bV:=[.cell 2 3 true,.da 3]
def c1103 [bI]:aB aj 103 49 d1103 EJ:=aB.of Tryz.f103 (by kernel_rfl)
def RF:ai:=[
 B 1 3]
def IK:ai:=[
 n 0 6,
 c 6 7 [0],
 a 3 7 8 [1],
 l 8 9 [2],
 a 0 3 10 [],
 l 10 11 [4],
 n 0 12,
 c 12 13 [6],
 a 2 13 14 [7],
 l 14 15 [8],
 a 0 3 16 [],
 l 16 17 [10],
 a 1 3 18 [],
 L 2 18 19 [12],
 x 1 9 11 20 [3,5,0,1,2,3,4,5,9],
 s (.store 1 (t 20) (.gN (.v (.bool true)))) [14,0,1,2,3,4,5,9],
 x 2 15 17 21 (k [9,11] 15),
 S 2 21 19 (k [16,13,15] 15)]
def RG:ai:=[
 n 0 22,
 c 22 23 [0],
 a 5 23 24 [1],
 l 24 25 [2],
 a 0 3 26 [],
 l 26 27 [4],
 x 1 25 27 28 [3,5],
 l 28 29 [6],
 N 29 30 [7],
 I 0 31]
def RH:ai:=[
 b .lss 31 30 32 []]
def RI:ai:=[
 x 1 29 31 33 [],
 l 33 34 [0],
 m 34 5 [1,0,1]]
def RK:ai:=[
 n 0 35,
 c 35 36 [0],
 a 4 36 37 [1],
 l 37 38 [2],
 n 5 39,
 x 1 38 39 40 [3,4],
 l 40 41 [5],
 C .sub 41 1 42 [6],
 x 1 38 39 43 (k [3,4] 7),
 S 1 43 42 (k [8,7] 7)]
def RL:ai:=[
 n 0 44,
 c 44 45 [0],
 a 4 45 46 [1],
 l 46 47 [2],
 n 5 48,
 x 1 47 48 49 [3,4],
 l 49 50 [5],
 C .eql 50 0 51 [6]]
def EK:ai:=[
 n 0 52,
 n 5 53,
 o (.callS 102 [(t 52),(t 53)]) 54 [0,1]]
def d1104r7:ai:=EK.map bare
def IL:ai:=[
 C .add 31 1 55 [],
 m 55 31 [0]]
def d1104:DC:=(j (y RF) (j (.jr IK) (j (Y RG) (.block 0 (.loop (j (y RH) (j (.cond (.tmp 32) .skip (.exit 0)) (j (.block 1 (j (y RI) (j (y RK) (j (y RL) (.cond (.tmp 51) (y d1104r7) .skip))))) (y IL)))))))))
def Lu:List bV:=[]
def c1104 [bI]:aB aj 104 56 d1104 Lu:=aB.of Tryz.f104 (by kernel_rfl)
def IM:ai:=[
 B 1 3,
 o (.alloc [V 0,V 0]) 4 []]
def IN:ai:=[
 a 1 3 8 [],
 l 8 9 [0],
 N 9 10 [1],
 o (.mkSlice 63 2 16 [(.int .i64 0),(.int .i64 0)] (t 10)) 11 [2,2],
 m 11 5 [3,0,1,2,3]]
def IP:ai:=[
 a 1 3 12 [],
 l 12 13 [0],
 N 13 14 [1],
 I 0 15]
def IQ:ai:=[
 b .lss 15 14 16 []]
def IR:ai:=[
 n 15 17,
 x 1 13 15 18 [],
 l 18 19 [1],
 m 17 6 [0,0,1,2],
 m 19 7 [2,3,0,1,2,3]]
def IS:ai:=[
 n 5 20,
 n 6 21,
 n 0 22,
 c 22 23 [2],
 a 2 23 24 [3],
 l 24 25 [4],
 n 7 26,
 x 2 25 26 27 [5,6],
 L 2 27 28 [7],
 x 2 20 21 29 (k [0,1] 8),
 S 2 29 28 (k [9,8] 8)]
def IT:ai:=[
 C .add 15 1 30 [],
 m 30 15 [0]]
def IU:ai:=[
 a 2 3 31 [],
 l 31 32 [0],
 n 5 33,
 o (.call 123 [(t 32),(t 33)]) 34 [1,2],
 S 2 4 34 [3,3,0,1,2,3]]
def d1105:DC:=(j (y IM) (j (y IN) (j (j (y IP) (.block 0 (.loop (j (y IQ) (j (.cond (.tmp 16) .skip (.exit 0)) (j (.block 1 (j (y IR) (y IS))) (y IT))))))) (j (y IU) .ret))))
def EL:List bV:=[.cell 4 2 true]
def c1105 [bI]:aB aj 105 35 d1105 EL:=aB.of Tryz.f105 (by kernel_rfl)
def RM:ai:=[
 B 1 3,
 I 0 4]
def RN:ai:=[
 n 0 7,
 c 7 8 [0],
 a 3 8 9 [1],
 l 9 10 [2],
 n 0 11,
 c 11 12 [4],
 a 1 12 13 [5],
 l 13 14 [6],
 N 14 15 [7],
 m 10 5 [3,0,1,2,3],
 m 15 6 (k [8,9] 9)]
def RP:ai:=[
 n 0 16,
 n 0 17,
 c 17 18 [1],
 a 1 18 19 [2],
 l 19 20 [3],
 L 3 3 21 [],
 n 5 22,
 n 0 23,
 c 23 24 [7],
 a 4 24 25 [8],
 l 25 26 [9],
 o (.build [V 0,V 0,V 0,V 0,V 0] [(0,3,(t 21)),(3,1,(t 22)),(4,1,(t 26))]) 27 [5,6,10],
 o (.bslice 1 5 [V 0,V 0,V 0,V 0,V 0] [(0,5,(t 27))]) 28 [11],
 o (.append 211 5 40 (t 20) (t 28)) 29 [4,12],
 c 16 30 (k [0] 13),
 a 1 30 31 (k [14] 13),
 S 1 31 29 (k [15,13,13] 13)]
def RQ:ai:=[
 n 0 32,
 c 32 33 [0],
 a 2 33 34 [1],
 l 34 35 [2],
 n 5 36,
 n 6 37,
 s (.mapUpd [(.int .i64)] false (t 35) (t 36) (t 37)) (k [3,4,5] 5)]
def RU:ai:=[
 n 0 38,
 n 0 39,
 n 0 40,
 c 40 41 [2],
 a 3 41 42 [3],
 l 42 43 [4],
 C .add 43 1 44 [5],
 n 0 45,
 c 45 46 [7],
 a 4 46 47 [8],
 l 47 48 [9],
 C .add 48 1 49 [10],
 c 38 50 [0,0,2,3,4,5,6,10],
 a 3 50 51 [12,0,2,3,4,5,6,10],
 S 1 51 44 [13,6,0,2,3,4,5,6,10],
 c 39 52 (k [1] 14),
 a 4 52 53 (k [15] 14),
 S 1 53 49 (k [16,11,14] 14)]
def EM:ai:=[
 n 0 54,
 n 6 55,
 o (.callS 147 [(t 54),(t 55)]) 56 [0,1]]
def d1132r5:ai:=EM.map bare
def RW:ai:=[
 n 5 57,
 m 57 4 [0,0]]
def d1132:DC:=(j (y RM) (j (Y RN) (j (Y RP) (j (y RQ) (j (Y RU) (j (y d1132r5) (j (y RW) .ret)))))))
def Lv:List bV:=[.da 4]
def c1132 [bI]:aB aj 132 58 d1132 Lv:=aB.of Tryz.f132 (by kernel_rfl)
def RX:ai:=[
 n 0 6,
 c 6 7 [0],
 a 1 7 8 [1],
 l 8 9 [2],
 n 1 10,
 n 0 11,
 c 11 12 [5],
 a 1 12 13 [6],
 l 13 14 [7],
 n 2 15,
 n 0 16,
 c 16 17 [10],
 a 1 17 18 [11],
 l 18 19 [12],
 n 2 20,
 x 5 19 20 21 [13,14],
 L 5 21 22 [15],
 n 0 23,
 c 23 24 [17],
 a 1 24 25 [18],
 l 25 26 [19],
 n 1 27,
 x 5 26 27 28 [20,21],
 L 5 28 29 [22],
 x 5 9 10 30 [3,4,0,1,2,3,4,8,10,11,12,13,14,15,16,20,23],
 S 5 30 22 [24,16,0,1,2,3,4,8,10,11,12,13,14,15,16,20,23],
 x 5 14 15 31 (k [8,9] 25),
 S 5 31 29 (k [26,23,25] 25)]
def RY:ai:=[
 n 0 32,
 c 32 33 [0],
 a 2 33 34 [1],
 l 34 35 [2],
 n 0 36,
 c 36 37 [4],
 a 1 37 38 [5],
 l 38 39 [6],
 n 1 40,
 x 5 39 40 41 [7,8],
 a 3 41 42 [9],
 l 42 43 [10],
 n 0 44,
 c 44 45 [12],
 a 2 45 46 [13],
 l 46 47 [14],
 n 0 48,
 c 48 49 [16],
 a 1 49 50 [17],
 l 50 51 [18],
 n 2 52,
 x 5 51 52 53 [19,20],
 a 3 53 54 [21],
 l 54 55 [22],
 n 1 56,
 n 2 57,
 o (.mapEnt [(.int .i64)] false (.v (.int .i64 0)) (t 35) (t 43)) 58 [3,11,15,19,23],
 e 1 58 59 [26],
 s (.entSt (t 35) (t 59) (t 56)) [3,27,24,26,0,1,2,3,4,5,6,7,8,9,10,11,15,19,23,24,26],
 o (.mapEnt [(.int .i64)] false (.v (.int .i64 0)) (t 47) (t 55)) 60 [15,23,28,0,1,2,3,4,5,6,7,8,9,10,11,15,19,23,24,26,27,28],
 e 1 60 61 [29],
 s (.entSt (t 47) (t 61) (t 57)) (k [15,30,25,29] 29)]
def d1133:DC:=(j (Y RX) (Y RY))
def Lw:List bV:=[]
def c1133 [bI]:aB aj 133 62 d1133 Lw:=aB.of Tryz.f133 (by kernel_rfl)
def RZ:ai:=[
 n 1 6,
 m 6 4 [0,0]]
def R5:ai:=[
 n 1 7,
 o (.bin .mul (i 2) (t 7)) 8 [0],
 C .add 8 1 9 [1],
 m 9 5 [2,0,1,2]]
def CB:ai:=[
 n 5 10,
 n 1 11,
 o (.bin .mul (i 2) (t 11)) 12 [1],
 C .add 12 2 13 [2],
 b .leq 10 13 14 [0,3],
 m 14 15 [4],
 w 5 16 15 true [5],
 w 0 17 15 true [5],
 g (.nilCheck (t 17)) 18 15 true [7,5],
 u 1 18 19 15 true [8,5],
 v 19 20 15 true [9,5],
 H 20 21 15 true [10,5],
 D .lss 16 21 22 15 true [6,11,5],
 q 15 22 23 [5,12]]
def EN:ai:=[
 n 0 26,
 n 5 27,
 n 4 28,
 o (.callS 148 [(t 26),(t 27),(t 28)]) 29 [0,1,2]]
def d1134r3:ai:=EN.map bare
def R6:ai:=[
 n 5 30,
 m 30 4 [0,0]]
def R7:ai:=[
 n 5 24,
 C .add 24 1 25 [0],
 m 25 5 [1,0,1]]
def R8:ai:=[
 n 4 31,
 n 1 32,
 b .eql 31 32 33 [0,1]]
def EO:ai:=[
 n 0 34,
 n 1 35,
 n 4 36,
 o (.callS 133 [(t 34),(t 35),(t 36)]) 37 [0,1,2]]
def d1134r7:ai:=EO.map bare
def R9:ai:=[
 n 4 38,
 m 38 1 [0,0]]
def d1134:DC:=(.block 0 (.loop (.block 1 (j (y RZ) (j (j (y R5) (.block 2 (.loop (j (j (y CB) (.cond (.tmp 23) .skip (.exit 2))) (j (.block 3 (j (y d1134r3) (.cond (.tmp 29) (y R6) .skip))) (y R7)))))) (j (j (y R8) (.cond (.tmp 33) .ret .skip)) (j (y d1134r7) (y R9))))))))
def Lx:List bV:=[]
def c1134 [bI]:aB aj 134 39 d1134 Lx:=aB.of Tryz.f134 (by kernel_rfl)
def uJ:ai:=[
 n 1 4,
 C .gtr 4 0 5 [0],
 m 5 6 [1],
 w 0 7 6 true [2],
 w 1 8 6 true [2],
 w 1 9 6 true [2],
 E .sub 9 1 10 6 true [5,2],
 E .quo 10 2 11 6 true [6,2],
 g (.callS 148 [(t 7),(t 8),(t 11)]) 12 6 true [3,4,7,2,2],
 q 6 12 13 [2,8]]
def d1147r0:ai:=uJ.map bare
def EP:ai:=[
 n 0 14,
 n 1 15,
 n 1 16,
 C .sub 16 1 17 [2],
 C .quo 17 2 18 [3],
 o (.callS 133 [(t 14),(t 15),(t 18)]) 19 [0,1,4]]
def d1147r1:ai:=EP.map bare
def Sa:ai:=[
 n 1 20,
 C .sub 20 1 21 [0],
 C .quo 21 2 22 [1],
 m 22 1 [2,0,1,2]]
def d1147:DC:=(.block 0 (.loop (j (j (y d1147r0) (.cond (.tmp 13) .skip (.exit 0))) (.block 1 (j (y d1147r1) (y Sa))))))
def EQ:List bV:=[]
def c1147 [bI]:aB aj 147 23 d1147 EQ:=aB.of Tryz.f147 (by kernel_rfl)
def Sb:ai:=[
 F 6]
def IW:ai:=[
 n 0 9,
 c 9 10 [0],
 a 1 10 11 [1],
 l 11 12 [2],
 n 1 13,
 x 5 12 13 14 [3,4],
 L 5 14 15 [5],
 n 0 16,
 c 16 17 [7],
 a 1 17 18 [8],
 l 18 19 [9],
 n 2 20,
 x 5 19 20 21 [10,11],
 L 5 21 22 [12],
 o (.alloc [V 0,V 0,V 0,V 0,V 0]) 7 [],
 o (.alloc [V 0,V 0,V 0,V 0,V 0]) 8 [],
 S 5 7 15 [14,6,0,1,2,3,4,5,6,14,15],
 S 5 8 22 (k [15,13,16] 16)]
def Sc:ai:=[
 n 0 23,
 c 23 24 [0],
 a 0 24 25 [1],
 l 25 26 [2],
 a 0 7 27 [],
 L 3 27 28 [4],
 a 0 8 29 [],
 L 3 29 30 [6],
 o (.callv (t 26) [(t 28),(t 30)]) 31 [3,5,7]]
def Sd:ai:=[
 R 6]
def IX:ai:=[
 n 0 32,
 c 32 33 [0],
 a 0 33 34 [1],
 l 34 35 [2],
 a 0 8 36 [],
 L 3 36 37 [4],
 a 0 7 38 [],
 L 3 38 39 [6],
 o (.callv (t 35) [(t 37),(t 39)]) 40 [3,5,7],
 U 40 41 [8],
 m 41 42 [9,8],
 u 4 7 43 42 true [10],
 v 43 44 42 true [11,10],
 u 4 8 45 42 true [10],
 v 45 46 42 true [13,10],
 D .lss 44 46 47 42 true [12,14,10],
 q 42 47 48 [10,15],
 m 48 6 (k [16,10] 16)]
def d1148:DC:=(j (y Sb) (j (.jr IW) (j (j (Y Sc) (.cond (.tmp 31) (j (y Sd) .ret) .skip)) (j (Y IX) .ret))))
def ER:List bV:=[.da 6]
def c1148 [bI]:aB aj 148 49 d1148 ER:=aB.of Tryz.f148 (by kernel_rfl)
def Se:ai:=[
 B 0 1,
 F 2]
def ow:ai:=[
 a 0 1 3 [],
 l 3 4 [0],
 C .lss 4 0 5 [1],
 m 5 6 [2],
 u 0 1 7 6 false [3],
 v 7 8 6 false [4,3],
 E .gtr 8 120 9 6 false [5,3],
 p 6 9 10 [3,6],
 m 10 11 [7,3],
 u 1 1 12 11 false [8],
 v 12 13 11 false [9,8],
 E .lss 13 1 14 11 false [10,8],
 p 11 14 15 [8,11],
 m 15 16 [12,8],
 u 1 1 17 16 false [13],
 v 17 18 16 false [14,13],
 E .gtr 18 1000 19 16 false [15,13],
 p 16 19 20 [13,16],
 m 20 21 [17,13],
 u 2 1 22 21 false [18],
 v 22 23 21 false [19,18],
 E .lss 23 0 24 21 false [20,18],
 p 21 24 25 [18,21],
 m 25 26 [22,18],
 u 2 1 27 26 false [23],
 v 27 28 26 false [24,23],
 u 1 1 29 26 false [23],
 v 29 30 26 false [26,23],
 D .geq 28 30 31 26 false [25,27,23],
 p 26 31 32 [23,28],
 m 32 33 [29,23],
 u 3 1 34 33 false [30],
 v 34 35 33 false [31,30],
 H 35 36 33 false [32,30],
 E .gtr 36 600 37 33 false [33,30],
 p 33 37 38 [30,34]]
def Sf:ai:=[
 F 2]
def Sg:ai:=[
 a 3 1 39 [],
 l 39 40 [0],
 o (.mkFn (.func 39) [(t 1)]) 41 [],
 o (.call 38 [(t 40),(t 41)]) 42 [1,2],
 U 42 43 [3],
 m 43 2 (k [4,3] 4)]
def d1026:DC:=(j (y Se) (j (j (y ow) (.cond (.tmp 38) (j (y Sf) .ret) .skip)) (j (y Sg) .ret)))
def ES:List bV:=[.da 2]
def c1026 [bI]:aB aj 26 44 d1026 ES:=aB.of Tryz.f26 (by kernel_rfl)
def Si:ai:=[
 B 0 2,
 F 4]
def sH:ai:=[
 n 1 5,
 C .lss 5 0 6 [0],
 m 6 7 [1],
 u 0 2 8 7 false [2],
 v 8 9 7 false [3,2],
 H 9 10 7 false [4,2],
 E .gtr 10 60 11 7 false [5,2],
 p 7 11 12 [2,6],
 m 12 13 [7,2],
 u 1 2 14 13 false [8],
 v 14 15 13 false [9,8],
 H 15 16 13 false [10,8],
 w 1 17 13 false [8],
 D .neq 16 17 18 13 false [11,12,8],
 p 13 18 19 [8,13],
 m 19 20 [14,8],
 u 2 2 21 20 false [15],
 v 21 22 20 false [16,15],
 E .neq 22 0 23 20 false [17,15],
 w 23 24 20 false [18,15,15],
 u 2 2 25 24 true [19],
 v 25 26 24 true [20,19],
 g (.call 41 [(t 26)]) 27 24 true [21,19,19],
 K 27 28 24 true [22,19],
 g (.pick (t 24) (t 28) (.gN (.v (.bool false)))) 29 20 false [19,23,15],
 p 20 29 30 [15,24]]
def Sj:ai:=[
 F 4]
def IY:ai:=[
 a 1 2 31 [],
 l 31 32 [0],
 o (.call 42 [(t 32),(.gN (.v (.fn (.func 43) [])))]) 33 [1],
 U 33 34 [2],
 m 34 35 [3,2],
 u 0 2 36 35 true [4],
 v 36 37 35 true [5,4],
 w 1 38 35 true [4],
 g (.call 44 [(t 37),(t 38)]) 39 35 true [6,7,4,4],
 q 35 39 40 [4,8],
 m 40 4 (k [9,8] 9)]
def d1027:DC:=(j (y Si) (j (j (y sH) (.cond (.tmp 30) (j (y Sj) .ret) .skip)) (j (y IY) .ret)))
def ET:List bV:=[.da 4]
def c1027 [bI]:aB aj 27 41 d1027 ET:=aB.of Tryz.f27 (by kernel_rfl)
def Sk:ai:=[
 B 0 2,
 F 4]
def CC:ai:=[
 L 4 2 7 [],
 o (.call 26 [(t 7)]) 8 [0],
 U 8 9 [1],
 m 9 10 [2,1],
 w 1 11 10 false [3],
 H 11 12 10 false [4,3],
 u 0 2 13 10 false [3],
 v 13 14 10 false [6,3],
 D .neq 12 14 15 10 false [5,7,3],
 p 10 15 16 [3,8]]
def Sl:ai:=[
 F 4]
def Sm:ai:=[
 L 4 2 17 [],
 n 1 18,
 o (.call 45 [(t 17),(t 18)]) 19 [0,1],
 N 19 20 [2],
 I 0 21]
def Sn:ai:=[
 b .lss 21 20 22 []]
def So:ai:=[
 x 2 19 21 23 [],
 L 2 23 24 [0],
 o (.alloc [V 0,V 0]) 6 [],
 S 2 6 24 [2,1,0,1,2]]
def CD:ai:=[
 a 0 6 25 [],
 l 25 26 [0],
 C .lss 26 1099511627776 27 [1],
 m 27 28 [2],
 u 1 6 29 28 true [3],
 v 29 30 28 true [4,3],
 E .gtr 30 1000 31 28 true [5,3],
 q 28 31 32 [3,6]]
def Sp:ai:=[
 F 4]
def Sq:ai:=[
 C .add 21 1 33 [],
 m 33 21 [0]]
def Sr:ai:=[
 R 4]
def d1028:DC:=(j (y Sk) (j (j (y CC) (.cond (.tmp 16) (j (y Sl) .ret) .skip)) (j (j (y Sm) (.block 0 (.loop (j (y Sn) (j (.cond (.tmp 22) .skip (.exit 0)) (j (.block 1 (j (y So) (j (y CD) (.cond (.tmp 32) (j (y Sp) .ret) .skip)))) (y Sq))))))) (j (y Sr) .ret))))
def yT:List bV:=[.da 4]
def c1028 [bI]:aB aj 28 34 d1028 yT:=aB.of Tryz.f28 (by kernel_rfl)
def Ss:ai:=[
 F 4]
def St:ai:=[
 n 0 5,
 n 1 6,
 o (.call 64 [(t 5),(t 6)]) 7 [0,1],
 C .geq 7 0 8 [2],
 m 8 4 [3,2,0,1,2,3]]
def d1038:DC:=(j (y Ss) (j (y St) .ret))
def Ly:List bV:=[.da 4]
def c1038 [bI]:aB aj 38 9 d1038 Ly:=aB.of Tryz.f38 (by kernel_rfl)
def Su:ai:=[
 B 0 2,
 F 3]
def Sv:ai:=[
 L 4 1 4 [],
 L 6 2 5 [],
 o (.call 40 [(t 4),(t 5)]) 6 [0,1],
 U 6 7 [2],
 m 7 3 [3,2,0,1,2,3]]
def d1039:DC:=(j (y Su) (j (y Sv) .ret))
def Lz:List bV:=[.da 3]
def c1039 [bI]:aB aj 39 8 d1039 Lz:=aB.of Tryz.f39 (by kernel_rfl)
def Sw:ai:=[
 B 0 2,
 B 1 3,
 F 4]
def Sx:ai:=[
 o (.mkFn (.func 65) [(t 2)]) 6 [],
 m 6 5 [0,0]]
def vv:ai:=[
 n 5 7,
 a 1 3 8 [],
 l 8 9 [1],
 o (.callv (t 7) [(t 9)]) 10 [0,2],
 U 10 11 [3],
 m 11 12 [4,3],
 u 4 3 13 12 false [5],
 v 13 14 12 false [6,5],
 E .lss 14 0 15 12 false [7,5],
 p 12 15 16 [5,8],
 m 16 17 [9,5],
 u 4 3 18 17 false [10],
 v 18 19 17 false [11,10],
 E .gtr 19 1000 20 17 false [12,10],
 p 17 20 21 [10,13],
 m 21 22 [14,10],
 u 5 3 23 22 false [15],
 v 23 24 22 false [16,15],
 E .lss 24 (-1) 25 22 false [17,15],
 p 22 25 26 [15,18]]
def Sy:ai:=[
 F 4]
def Sz:ai:=[
 a 0 3 27 [],
 l 27 28 [0]]
def SA:ai:=[
 C .eql 28 1 30 [],
 m 30 29 [0]]
def CE:ai:=[
 a 2 3 31 [],
 l 31 32 [0],
 C .eql 32 0 33 [1],
 m 33 34 [2],
 u 3 3 35 34 true [3],
 v 35 36 34 true [4,3],
 E .eql 36 0 37 34 true [5,3],
 q 34 37 38 [3,6],
 m 38 4 (k [7,3] 7)]
def SB:ai:=[
 C .eql 28 2 40 [],
 m 40 39 [0]]
def yU:ai:=[
 a 2 3 41 [],
 l 41 42 [0],
 C .geq 42 0 43 [1],
 m 43 44 [2],
 u 2 3 45 44 true [3],
 v 45 46 44 true [4,3],
 u 0 2 47 44 true [3],
 v 47 48 44 true [6,3],
 D .lss 46 48 49 44 true [5,7,3],
 q 44 49 50 [3,8],
 m 50 51 [9,3],
 u 3 3 52 51 true [10],
 v 52 53 51 true [11,10],
 E .eql 53 0 54 51 true [12,10],
 q 51 54 55 [10,13],
 m 55 4 (k [14,10] 14)]
def SD:ai:=[
 C .eql 28 3 57 [],
 m 57 56 [0]]
def yV:ai:=[
 n 5 58,
 a 2 3 59 [],
 l 59 60 [1],
 o (.callv (t 58) [(t 60)]) 61 [0,2],
 m 61 62 [3,3],
 u 3 3 63 62 true [4],
 v 63 64 62 true [5,4],
 E .eql 64 0 65 62 true [6,4],
 q 62 65 66 [4,7],
 m 66 4 (k [8,4] 8)]
def LA:ai:=[
 C .eql 28 4 68 [],
 m 68 67 [0]]
def yW:ai:=[
 n 5 69,
 a 2 3 70 [],
 l 70 71 [1],
 o (.callv (t 69) [(t 71)]) 72 [0,2],
 m 72 73 [3,3],
 w 5 74 73 true [4],
 u 3 3 75 73 true [4],
 v 75 76 73 true [6,4],
 g (.callv (t 74) [(t 76)]) 77 73 true [5,7,4,4],
 q 73 77 78 [4,8],
 m 78 4 (k [9,8] 9)]
def LB:ai:=[
 F 4]
def d1040:DC:=(j (y Sw) (j (y Sx) (j (j (y vv) (.cond (.tmp 26) (j (y Sy) .ret) .skip)) (j (j (y Sz) (.block 0 (j (y SA) (.cond (.tmp 29) (j (y CE) .ret) (j (y SB) (.cond (.tmp 39) (j (y yU) .ret) (j (y SD) (.cond (.tmp 56) (j (y yV) .ret) (j (y LA) (.cond (.tmp 67) (j (y yW) .ret) .skip)))))))))) (j (y LB) .ret)))))
def pj:List bV:=[.da 4]
def c1040 [bI]:aB aj 40 79 d1040 pj:=aB.of Tryz.f40 (by kernel_rfl)
def SE:ai:=[
 F 2]
def CF:ai:=[
 n 0 3,
 C .geq 3 1 4 [0],
 m 4 5 [1],
 w 0 6 5 true [2],
 E .leq 6 60000 7 5 true [3,2],
 q 5 7 8 [2,4],
 m 8 2 (k [5,2] 5)]
def d1041:DC:=(j (y SE) (j (y CF) .ret))
def LC:List bV:=[.da 2]
def c1041 [bI]:aB aj 41 9 d1041 LC:=aB.of Tryz.f41 (by kernel_rfl)
def SF:ai:=[
 F 4]
def SG:ai:=[
 n 0 5,
 n 1 6,
 o (.call 66 [(t 5),(t 6)]) 7 [0,1],
 C .geq 7 0 8 [2],
 m 8 4 [3,2,0,1,2,3]]
def d1042:DC:=(j (y SF) (j (y SG) .ret))
def LD:List bV:=[.da 4]
def c1042 [bI]:aB aj 42 9 d1042 LD:=aB.of Tryz.f42 (by kernel_rfl)
def SH:ai:=[
 F 2]
def SI:ai:=[
 n 0 3,
 o (.call 41 [(t 3)]) 4 [0],
 U 4 5 [1],
 m 5 2 [2,1,0,1,2]]
def d1043:DC:=(j (y SH) (j (y SI) .ret))
def LF:List bV:=[.da 2]
def c1043 [bI]:aB aj 43 6 d1043 LF:=aB.of Tryz.f43 (by kernel_rfl)
def SJ:ai:=[
 B 1 3,
 F 4]
def SK:ai:=[
 n 0 5,
 o (.mkFn (.func 68) [(t 3)]) 6 [],
 o (.call 67 [(t 5),(t 6)]) 7 [0,1],
 U 7 8 [2],
 m 8 4 [3,2,0,1,2,3]]
def d1044:DC:=(j (y SJ) (j (y SK) .ret))
def LG:List bV:=[.da 4]
def c1044 [bI]:aB aj 44 9 d1044 LG:=aB.of Tryz.f44 (by kernel_rfl)
def IZ:ai:=[
 B 0 2,
 Z 4]
def I0:ai:=[
 L 4 2 7 [],
 n 1 8,
 o (.call 70 [(t 7),(t 8)]) 9 [0,1],
 U 9 10 [2]]
def SL:ai:=[
 Z 4]
def SM:ai:=[
 L 4 2 12 [],
 n 1 13,
 o (.call 72 [(t 12),(t 13)]) 14 [0,1],
 o (.call 71 [(t 14)]) 15 [2,2],
 m 15 11 [3],
 e 0 11 16 [4],
 e 1 11 17 [4],
 m 16 5 (k [5,3] 5),
 m 17 6 (k [6,7] 7)]
def SN:ai:=[
 n 5 18,
 m 18 4 [0,0]]
def d1045:DC:=(j (y IZ) (j (j (y I0) (.cond (.tmp 10) (j (y SL) .ret) .skip)) (j (y SM) (j (y SN) .ret))))
def EU:List bV:=[.da 4]
def c1045 [bI]:aB aj 45 19 d1045 EU:=aB.of Tryz.f45 (by kernel_rfl)
def SO:ai:=[
 I 0 4]
def SP:ai:=[
 n 0 6,
 N 6 7 [0],
 I 0 8]
def SQ:ai:=[
 b .lss 8 7 9 []]
def SR:ai:=[
 n 8 10,
 m 10 5 [0,0]]
def SS:ai:=[
 n 1 11,
 n 0 12,
 n 5 13,
 x 6 12 13 14 [1,2],
 L 6 14 15 [3],
 o (.callv (t 11) [(t 15)]) 16 [0,4]]
def ST:ai:=[
 n 5 17,
 m 17 4 [0,0]]
def SU:ai:=[
 C .add 8 1 18 [],
 m 18 8 [0]]
def SW:ai:=[
 I (-1) 4]
def d1064:DC:=(j (y SO) (j (j (y SP) (.block 0 (.loop (j (y SQ) (j (.cond (.tmp 9) .skip (.exit 0)) (j (.block 1 (j (y SR) (j (y SS) (.cond (.tmp 16) (j (y ST) .ret) .skip)))) (y SU))))))) (j (y SW) .ret)))
def EV:List bV:=[.da 4]
def c1064 [bI]:aB aj 64 19 d1064 EV:=aB.of Tryz.f64 (by kernel_rfl)
def SX:ai:=[
 F 3]
def CG:ai:=[
 n 0 4,
 C .geq 4 0 5 [0],
 m 5 6 [1],
 w 0 7 6 true [2],
 u 1 1 8 6 true [2],
 v 8 9 6 true [4,2],
 D .lss 7 9 10 6 true [3,5,2],
 q 6 10 11 [2,6],
 m 11 3 (k [7,2] 7)]
def d1065:DC:=(j (y SX) (j (y CG) .ret))
def LH:List bV:=[.da 3]
def c1065 [bI]:aB aj 65 12 d1065 LH:=aB.of Tryz.f65 (by kernel_rfl)
def SY:ai:=[
 I 0 4]
def SZ:ai:=[
 n 0 6,
 N 6 7 [0],
 I 0 8]
def Ta:ai:=[
 b .lss 8 7 9 []]
def Tb:ai:=[
 n 8 10,
 m 10 5 [0,0]]
def Tc:ai:=[
 n 1 11,
 n 0 12,
 n 5 13,
 x 1 12 13 14 [1,2],
 l 14 15 [3],
 o (.callv (t 11) [(t 15)]) 16 [0,4]]
def Td:ai:=[
 n 5 17,
 m 17 4 [0,0]]
def Te:ai:=[
 C .add 8 1 18 [],
 m 18 8 [0]]
def Tf:ai:=[
 I (-1) 4]
def d1066:DC:=(j (y SY) (j (j (y SZ) (.block 0 (.loop (j (y Ta) (j (.cond (.tmp 9) .skip (.exit 0)) (j (.block 1 (j (y Tb) (j (y Tc) (.cond (.tmp 16) (j (y Td) .ret) .skip)))) (y Te))))))) (j (y Tf) .ret)))
def EW:List bV:=[.da 4]
def c1066 [bI]:aB aj 66 19 d1066 EW:=aB.of Tryz.f66 (by kernel_rfl)
def Tg:ai:=[
 F 4]
def Th:ai:=[
 n 0 5,
 n 1 6,
 o (.call 99 [(t 5),(t 6)]) 7 [0,1],
 C .geq 7 0 8 [2],
 m 8 4 [3,2,0,1,2,3]]
def d1067:DC:=(j (y Tg) (j (y Th) .ret))
def LI:List bV:=[.da 4]
def c1067 [bI]:aB aj 67 9 d1067 LI:=aB.of Tryz.f67 (by kernel_rfl)
def Ti:ai:=[
 B 0 2,
 F 3]
def Tj:ai:=[
 L 3 2 4 [],
 l 1 5 [],
 o (.call 69 [(t 4),(t 5)]) 6 [0,1],
 U 6 7 [2],
 m 7 3 [3,2,0,1,2,3]]
def d1068:DC:=(j (y Ti) (j (y Tj) .ret))
def LJ:List bV:=[.da 3]
def c1068 [bI]:aB aj 68 8 d1068 LJ:=aB.of Tryz.f68 (by kernel_rfl)
def Tk:ai:=[
 B 0 2,
 F 4]
def sI:ai:=[
 a 0 2 7 [],
 l 7 8 [0],
 C .lss 8 (-1) 9 [1],
 m 9 10 [2],
 u 0 2 11 10 false [3],
 v 11 12 10 false [4,3],
 w 1 13 10 false [3],
 D .geq 12 13 14 10 false [5,6,3],
 p 10 14 15 [3,7],
 m 15 16 [8,3],
 u 1 2 17 16 false [9],
 v 17 18 16 false [10,9],
 H 18 19 16 false [11,9],
 w 1 20 16 false [9],
 D .neq 19 20 21 16 false [12,13,9],
 p 16 21 22 [9,14],
 m 22 23 [15,9],
 u 2 2 24 23 false [16],
 v 24 25 23 false [17,16],
 g (.call 41 [(t 25)]) 26 23 false [18,16,16],
 K 26 27 23 false [19,16],
 w 27 28 23 false [20,19,16],
 u 2 2 29 28 true [21],
 v 29 30 28 true [22,21],
 E .neq 30 1099511627776 31 28 true [23,21],
 g (.pick (t 28) (t 31) (.gN (.v (.bool false)))) 32 23 false [21,24,16],
 p 23 32 33 [16,25]]
def Tl:ai:=[
 F 4]
def Tm:ai:=[
 a 1 2 34 [],
 l 34 35 [0],
 N 35 36 [1],
 I 0 37]
def Tn:ai:=[
 b .lss 37 36 38 []]
def To:ai:=[
 n 37 39,
 x 1 35 37 40 [],
 l 40 41 [1],
 m 39 5 [0,0,1,2],
 m 41 6 [2,3,0,1,2,3]]
def vw:ai:=[
 n 5 42,
 a 0 2 43 [],
 l 43 44 [1],
 b .eql 42 44 45 [0,2],
 m 45 46 [3],
 w 6 47 46 true [4],
 E .neq 47 0 48 46 true [5,4],
 q 46 48 49 [4,6],
 m 49 50 [7,4],
 w 5 51 50 false [8],
 u 0 2 52 50 false [8],
 v 52 53 50 false [10,8],
 D .neq 51 53 54 50 false [9,11,8],
 w 54 55 50 false [12,8,8],
 w 6 56 55 true [13],
 E .neq 56 (-1) 57 55 true [14,13],
 g (.pick (t 55) (t 57) (.gN (.v (.bool false)))) 58 50 false [13,15,8],
 w 58 59 50 false [16,13,8],
 w 6 60 59 true [17],
 g (.call 41 [(t 60)]) 61 59 true [18,17,17],
 K 61 62 59 true [19,17],
 g (.pick (t 59) (t 62) (.gN (.v (.bool false)))) 63 50 false [17,20,8],
 p 50 63 64 [8,21]]
def Tp:ai:=[
 F 4]
def Tq:ai:=[
 C .add 37 1 65 [],
 m 65 37 [0]]
def Tr:ai:=[
 R 4]
def d1069:DC:=(j (y Tk) (j (j (y sI) (.cond (.tmp 33) (j (y Tl) .ret) .skip)) (j (j (y Tm) (.block 0 (.loop (j (y Tn) (j (.cond (.tmp 38) .skip (.exit 0)) (j (.block 1 (j (y To) (j (y vw) (.cond (.tmp 64) (j (y Tp) .ret) .skip)))) (y Tq))))))) (j (y Tr) .ret))))
def yX:List bV:=[.da 4]
def c1069 [bI]:aB aj 69 66 d1069 yX:=aB.of Tryz.f69 (by kernel_rfl)
def Ts:ai:=[
 B 0 2,
 F 4]
def CH:ai:=[
 L 4 2 7 [],
 o (.call 26 [(t 7)]) 8 [0],
 U 8 9 [1],
 m 9 10 [2,1],
 w 1 11 10 false [3],
 H 11 12 10 false [4,3],
 u 0 2 13 10 false [3],
 v 13 14 10 false [6,3],
 D .neq 12 14 15 10 false [5,7,3],
 p 10 15 16 [3,8]]
def Tu:ai:=[
 F 4]
def Tv:ai:=[
 n 1 17,
 N 17 18 [0],
 I 0 19]
def Tw:ai:=[
 b .lss 19 18 20 []]
def Tx:ai:=[
 x 1 17 19 21 [],
 l 21 22 [0],
 m 22 6 [1,0,1]]
def CI:ai:=[
 n 6 23,
 C .lss 23 1 24 [0],
 m 24 25 [1],
 w 6 26 25 false [2],
 E .gtr 26 60000 27 25 false [3,2],
 p 25 27 28 [2,4]]
def Tz:ai:=[
 F 4]
def TA:ai:=[
 C .add 19 1 29 [],
 m 29 19 [0]]
def TB:ai:=[
 R 4]
def d1070:DC:=(j (y Ts) (j (j (y CH) (.cond (.tmp 16) (j (y Tu) .ret) .skip)) (j (j (y Tv) (.block 0 (.loop (j (y Tw) (j (.cond (.tmp 20) .skip (.exit 0)) (j (.block 1 (j (y Tx) (j (y CI) (.cond (.tmp 28) (j (y Tz) .ret) .skip)))) (y TA))))))) (j (y TB) .ret))))
def yY:List bV:=[.da 4]
def c1070 [bI]:aB aj 70 30 d1070 yY:=aB.of Tryz.f70 (by kernel_rfl)
def TC:ai:=[
 B 0 2,
 o (.alloc [V 0,.aW]) 4 []]
def TD:ai:=[
 a 1 2 9 [],
 l 9 10 [0],
 o (.build [V 0,.aW] [(0,1,(t 10))]) 11 [1],
 o (.alloc [V 0,.aW]) 5 [],
 S 2 5 11 [3,2,0,1,2,3]]
def TE:ai:=[
 a 3 2 12 [],
 l 12 13 [0],
 N 13 14 [1],
 I 0 15]
def TF:ai:=[
 b .lss 15 14 16 []]
def TG:ai:=[
 x 6 13 15 17 [],
 L 6 17 18 [0],
 o (.alloc [V 0,V 0,V 0,V 0,V 0,V 0]) 7 [],
 S 6 7 18 [2,1,0,1,2]]
def TH:ai:=[
 a 1 7 19 [],
 l 19 20 [0],
 a 4 7 21 [],
 l 21 22 [2],
 o (.build [V 0,.aW,V 0,V 0,V 0] [(0,1,(t 20)),(2,1,(t 22))]) 23 [1,3],
 o (.alloc [V 0,.aW,V 0,V 0,V 0]) 8 [],
 S 5 8 23 (k [5,4] 5)]
def TI:ai:=[
 a 0 7 24 [],
 l 24 25 [0]]
def TJ:ai:=[
 C .eql 25 2 27 [],
 m 27 26 [0]]
def TK:ai:=[
 a 2 8 28 [],
 l 28 29 [0],
 n 1 30,
 a 2 7 31 [],
 l 31 32 [3],
 x 1 30 32 33 [2,4],
 l 33 34 [5],
 b .add 29 34 35 [1,6],
 a 2 8 36 (k [] 7),
 S 1 36 35 (k [8,7] 7)]
def TL:ai:=[
 C .eql 25 3 38 [],
 m 38 37 [0]]
def LK:ai:=[
 a 2 7 39 [],
 l 39 40 [0],
 o (.bslice 1 1 [V 0] [(0,1,(t 40))]) 41 [1],
 a 1 8 42 [0,1,2],
 S 1 42 41 [3,2,0,1,2]]
def LL:ai:=[
 C .eql 25 4 44 [],
 m 44 43 [0]]
def LM:ai:=[
 a 2 7 45 [],
 l 45 46 [0],
 a 3 7 47 [],
 l 47 48 [2],
 o (.bslice 2 1 [V 0,V 0] [(0,1,(t 46)),(1,1,(t 48))]) 49 [1,3],
 a 1 8 50 (k [] 4),
 S 1 50 49 (k [5,4] 4)]
def LN:ai:=[
 a 1 5 51 [],
 l 51 52 [0],
 L 5 8 53 [],
 o (.bslice 1 5 [V 0,.aW,V 0,V 0,V 0] [(0,5,(t 53))]) 54 [2],
 o (.append 157 5 56 (t 52) (t 54)) 55 [1,3],
 a 1 5 56 (k [] 4),
 S 1 56 55 (k [5,4,4] 4)]
def LO:ai:=[
 C .add 15 1 57 [],
 m 57 15 [0]]
def LP:ai:=[
 L 2 5 58 [],
 S 2 4 58 [0,0]]
def d1072:DC:=(j (y TC) (j (y TD) (j (j (y TE) (.block 0 (.loop (j (y TF) (j (.cond (.tmp 16) .skip (.exit 0)) (j (.block 1 (j (y TG) (j (y TH) (j (j (y TI) (.block 2 (j (y TJ) (.cond (.tmp 26) (Y TK) (j (y TL) (.cond (.tmp 37) (y LK) (j (y LL) (.cond (.tmp 43) (y LM) .skip)))))))) (y LN))))) (y LO))))))) (j (y LP) .ret))))
def LQ:List bV:=[.cell 4 2 true]
def c1072 [bI]:aB aj 72 59 d1072 LQ:=aB.of Tryz.f72 (by kernel_rfl)
def TM:ai:=[
 I 0 4]
def TN:ai:=[
 n 0 6,
 N 6 7 [0],
 I 0 8]
def TO:ai:=[
 b .lss 8 7 9 []]
def TP:ai:=[
 n 8 10,
 m 10 5 [0,0]]
def TQ:ai:=[
 n 1 11,
 n 0 12,
 n 5 13,
 x 3 12 13 14 [1,2],
 L 3 14 15 [3],
 o (.callv (t 11) [(t 15)]) 16 [0,4]]
def TR:ai:=[
 n 5 17,
 m 17 4 [0,0]]
def TS:ai:=[
 C .add 8 1 18 [],
 m 18 8 [0]]
def TT:ai:=[
 I (-1) 4]
def d1099:DC:=(j (y TM) (j (j (y TN) (.block 0 (.loop (j (y TO) (j (.cond (.tmp 9) .skip (.exit 0)) (j (.block 1 (j (y TP) (j (y TQ) (.cond (.tmp 16) (j (y TR) .ret) .skip)))) (y TS))))))) (j (y TT) .ret)))
def EX:List bV:=[.da 4]
def c1099 [bI]:aB aj 99 19 d1099 EX:=aB.of Tryz.f99 (by kernel_rfl)
def TU:ai:=[
 B 0 3,
 B 1 4,
 F 6]
def TV:ai:=[
 o (.call 8 []) 12 [],
 U 12 13 [0]]
def d1007r2:ai:=[
 F 6]
def TW:ai:=[
 L 4 3 14 [],
 L 3 4 15 [],
 o (.call 10 [(t 14),(t 15)]) 16 [0,1],
 U 16 17 [2]]
def TX:ai:=[
 R 6]
def I1:ai:=[
 L 4 3 18 [],
 L 3 4 19 [],
 o (.call 12 [(t 18),(t 19)]) 20 [0,1],
 m 20 7 [2,2,0,1,2]]
def I2:ai:=[
 L 4 3 22 [],
 L 3 4 23 [],
 o (.call 9 [(t 22),(t 23)]) 24 [0,1],
 m 24 21 [2],
 e 0 21 25 [3],
 e 1 21 26 [3],
 o (.alloc [V 0,V 0,V 0,.aW,.aW,.aW,V 0,V 0,V 0,(.v (.bool false))]) 8 [],
 S 10 8 25 [6,4,2,0,1,2,3,4,6],
 m 26 9 (k [5,7] 7)]
def I3:ai:=[
 n 9 27]
def EY:ai:=[
 n 7 28,
 o (.isNil 1 true (t 28)) 29 [0],
 m 29 30 [1],
 w 7 31 30 true [2],
 g (.callS 18 [(t 31)]) 32 30 true [3,2,2],
 E .gtr 32 0 33 30 true [4,2],
 q 30 33 34 [2,5],
 m 34 6 (k [6,4] 6)]
def d1007r8:ai:=EY.map bare
def TY:ai:=[
 n 7 35,
 o (.isNil 1 true (t 35)) 36 [0]]
def aar:ai:=[
 F 6]
def LR:ai:=[
 n 7 37,
 o (.call 14 [(t 37)]) 38 [0]]
def LS:ai:=[
 n 7 40,
 o (.call 19 [(t 40)]) 41 [0],
 m 41 39 [1],
 e 0 39 42 [2],
 e 1 39 43 [2],
 o (.alloc [V 0,V 0,.aW]) 10 [],
 S 3 10 42 [5,3,1,0,1,2,3,5],
 m 43 11 (k [4,6] 6)]
def LU:ai:=[
 n 7 44,
 n 2 45,
 o (.call 17 [(t 44),(t 45)]) 46 [0,1],
 C .eql 46 0 47 [2],
 m 47 48 [3,2],
 w 7 49 48 true [4],
 g (.call 18 [(t 49)]) 50 48 true [5,4,4],
 E .eql 50 0 51 48 true [6,4],
 q 48 51 52 [4,7],
 m 52 53 [8,6],
 w 11 54 53 true [9],
 E .eql 54 15 55 53 true [10,9],
 q 53 55 56 [9,11],
 m 56 57 [12,9],
 u 2 10 58 57 true [13],
 v 58 59 57 true [14,13],
 H 59 60 57 true [15,13],
 E .eql 60 0 61 57 true [16,13],
 q 57 61 62 [13,17],
 m 62 6 (k [18,13] 18)]
def d1007:DC:=(j (y TU) (j (j (y TV) (.cond (.tmp 13) (j (y d1007r2) .ret) .skip)) (j (j (y TW) (.cond (.tmp 17) (j (y TX) .ret) .skip)) (j (y I1) (j (j (y I2) (j (y I3) (.cond (.tmp 27) (j (y d1007r8) .ret) .skip))) (j (j (y TY) (.cond (.tmp 36) (j (y aar) .ret) .skip)) (j (y LR) (j (y LS) (j (y LU) .ret)))))))))
def yZ:List bV:=[.da 6]
def c1007 [bI]:aB aj 7 63 d1007 yZ:=aB.of Tryz.f7 (by kernel_rfl)
def TZ:ai:=[
 F 0]
def T0:ai:=[
 o (.call 21 []) 12 [],
 m 12 11 [0],
 e 0 11 13 [1],
 e 1 11 14 [1],
 o (.alloc [V 0,V 0,V 0,.aW]) 1 [],
 o (.alloc [.aW,.aW,V 0]) 2 [],
 S 4 1 13 [4,2,0,0,1,2,4,5],
 S 3 2 14 (k [5,3,6] 6)]
def T1:ai:=[
 L 4 1 15 [],
 L 3 2 16 [],
 o (.call 12 [(t 15),(t 16)]) 17 [0,1],
 m 17 3 [2,2,0,1,2]]
def T2:ai:=[
 n 3 18,
 o (.isNil 1 false (t 18)) 19 [0]]
def d1008r4:ai:=[
 F 0]
def EZ:ai:=[
 n 3 20,
 o (.callS 17 [(t 20),(i 4)]) 21 [0],
 m 21 4 [1,1,0,1]]
def d1008r5:ai:=EZ.map bare
def E0:ai:=[
 n 3 23,
 o (.callS 19 [(t 23)]) 24 [0],
 m 24 22 [1],
 e 0 22 25 [2],
 e 1 22 26 [2],
 o (.alloc [V 0,V 0,.aW]) 5 [],
 S 3 5 25 [5,3,1,0,1,2,3,5],
 m 26 6 (k [4,6] 6)]
def d1008r6:ai:=E0.map bare
def E3:ai:=[
 n 3 27,
 o (.callS 18 [(t 27)]) 28 [0],
 m 28 7 [1,1,0,1]]
def d1008r7:ai:=E3.map bare
def E4:ai:=[
 n 3 29,
 o (.callS 17 [(t 29),(i 9)]) 30 [0],
 m 30 8 [1,1,0,1]]
def d1008r8:ai:=E4.map bare
def E5:ai:=[
 n 3 32,
 o (.callS 19 [(t 32)]) 33 [0],
 m 33 31 [1],
 e 0 31 34 [2],
 e 1 31 35 [2],
 o (.alloc [V 0,V 0,.aW]) 9 [],
 S 3 9 34 [5,3,1,0,1,2,3,5],
 m 35 10 (k [4,6] 6)]
def d1008r9:ai:=E5.map bare
def LW:ai:=[
 n 4 36,
 C .eql 36 4 37 [0],
 m 37 38 [1],
 w 6 39 38 true [2],
 E .eql 39 15 40 38 true [3,2],
 q 38 40 41 [2,4],
 m 41 42 [5,2],
 w 7 43 42 true [6],
 E .eql 43 2 44 42 true [7,6],
 q 42 44 45 [6,8],
 m 45 46 [9,6],
 w 8 47 46 true [10],
 E .eql 47 2 48 46 true [11,10],
 q 46 48 49 [10,12],
 m 49 50 [13,10],
 w 10 51 50 true [14],
 E .eql 51 0 52 50 true [15,14],
 q 50 52 53 [14,16],
 m 53 54 [17,14],
 u 1 9 55 54 true [18],
 v 55 56 54 true [19,18],
 E .eql 56 3 57 54 true [20,18],
 q 54 57 58 [18,21],
 m 58 59 [22,18],
 u 2 9 60 59 true [23],
 v 60 61 59 true [24,23],
 H 61 62 59 true [25,23],
 E .eql 62 6 63 59 true [26,23],
 q 59 63 64 [23,27],
 m 64 65 [28,23],
 u 2 9 66 65 true [29],
 v 66 67 65 true [30,29],
 g (.idxAddr 4 (t 67) (i 2)) 68 65 true [31,29],
 u 0 68 69 65 true [32,29],
 g (.load 2 true (t 69)) 70 65 true [33,29],
 g (.build [V 0,V 0] [(0,1,(i 2)),(1,1,(i 1))]) 71 65 true [29],
 g (.eqT false true [(.int .i64),(.int .i64)] (t 70) (t 71)) 72 65 true [34,35,29],
 q 65 72 73 [29,36],
 m 73 0 (k [37,29] 37)]
def d1008:DC:=(j (y TZ) (j (y T0) (j (y T1) (j (j (y T2) (.cond (.tmp 19) (j (y d1008r4) .ret) .skip)) (j (y d1008r5) (j (y d1008r6) (j (y d1008r7) (j (y d1008r8) (j (y d1008r9) (j (y LW) .ret))))))))))
def LX:List bV:=[.da 0]
def c1008 [bI]:aB aj 8 74 d1008 LX:=aB.of Tryz.f8 (by kernel_rfl)
def T3:ai:=[
 B 0 2,
 B 1 3,
 o (.alloc [V 0,V 0,V 0,.aW,.aW,.aW,V 0,V 0,V 0,(.v (.bool false))]) 4 [],
 F 5]
def I4:ai:=[
 L 4 2 7 [],
 a 1 3 8 [],
 l 8 9 [1],
 o (.call 22 [(t 7),(t 9)]) 10 [0,2],
 U 10 11 [3],
 m 11 12 [4,3],
 g (.load 3 true (t 3)) 13 12 false [5],
 u 0 2 14 12 false [5],
 v 14 15 12 false [7,5],
 g (.call 23 [(t 13),(t 15)]) 16 12 false [6,8,5,5],
 K 16 17 12 false [9,5],
 p 12 17 18 [5,10]]
def T4:ai:=[
 o (.build [V 0,V 0,V 0,.aW,.aW,.aW,V 0,V 0,V 0,(.v (.bool false))] []) 19 [],
 S 10 4 19 [0,0],
 o (.qu (.gN (.v (.bool false)))) 5 [1,0,1]]
def T5:ai:=[
 a 0 3 20 [],
 l 20 21 [0],
 N 21 22 [1],
 o (.bin .mul (i 2) (t 22)) 23 [2],
 C .add 23 1 24 [3],
 m 24 6 (k [4] 4)]
def T6:ai:=[
 L 4 2 25 [],
 L 3 3 26 [],
 n 6 27,
 n 6 28,
 C .add 28 1 29 [3],
 b .mul 27 29 30 [2,4],
 C .quo 30 2 31 [5],
 o (.build [V 0,V 0,V 0,.aW,.aW,.aW,V 0,V 0,V 0,(.v (.bool false))] [(0,4,(t 25)),(4,3,(t 26)),(7,1,(t 31))]) 32 [0,1,6],
 S 10 4 32 (k [7] 7),
 o (.qu (.gN (.v (.bool true)))) 5 (k [8] 8)]
def d1009:DC:=(j (y T3) (j (j (y I4) (.cond (.tmp 18) (j (y T4) .ret) .skip)) (j (y T5) (j (y T6) .ret))))
def E6:List bV:=[.cell 4 10 true,.da 5]
def c1009 [bI]:aB aj 9 33 d1009 E6:=aB.of Tryz.f9 (by kernel_rfl)
def T7:ai:=[
 B 0 2,
 B 1 3,
 F 4]
def vA:ai:=[
 L 4 2 5 [],
 a 1 3 6 [],
 l 6 7 [1],
 o (.call 24 [(t 5),(t 7)]) 8 [0,2],
 m 8 9 [3,3],
 u 1 2 10 9 true [4],
 v 10 11 9 true [5,4],
 E .leq 11 12 12 9 true [6,4],
 q 9 12 13 [4,7],
 m 13 14 [8,4],
 u 3 2 15 14 true [9],
 v 15 16 14 true [10,9],
 H 16 17 14 true [11,9],
 E .leq 17 20 18 14 true [12,9],
 q 14 18 19 [9,13],
 m 19 20 [14,9],
 g (.load 3 true (t 3)) 21 20 true [15],
 g (.call 25 [(t 21),(i 4),(i 6)]) 22 20 true [16,15,15],
 q 20 22 23 [15,17],
 m 23 4 (k [18,17] 18)]
def d1010:DC:=(j (y T7) (j (y vA) .ret))
def LY:List bV:=[.da 4]
def c1010 [bI]:aB aj 10 24 d1010 LY:=aB.of Tryz.f10 (by kernel_rfl)
def I5:ai:=[
 B 0 2,
 B 1 3,
 o (.qu (.gN (.v (.mg (Go.Value.pointer Option.none))))) 4 []]
def y6:ai:=[
 L 4 2 7 [],
 o (.call 26 [(t 7)]) 8 [0],
 U 8 9 [1],
 m 9 10 [2,1],
 g (.load 3 true (t 3)) 11 10 false [3],
 u 0 2 12 10 false [3],
 v 12 13 10 false [5,3],
 g (.call 27 [(t 11),(t 13)]) 14 10 false [4,6,3,3],
 K 14 15 10 false [7,3],
 p 10 15 16 [3,8],
 m 16 17 [9,7],
 g (.load 4 true (t 2)) 18 17 false [10],
 u 1 3 19 17 false [10],
 v 19 20 17 false [12,10],
 g (.call 28 [(t 18),(t 20)]) 21 17 false [11,13,10,10],
 K 21 22 17 false [14,10],
 p 17 22 23 [10,15]]
def T8:ai:=[
 o (.qu (.gN (.v (.mg (Go.Value.pointer Option.none))))) 4 []]
def T9:ai:=[
 L 3 3 24 [],
 o (.call 29 [(t 24)]) 25 [0],
 o (.alloc [V 0,.aW,.aW]) 5 [],
 S 3 5 25 [2,1,1,0,1,2]]
def Ua:ai:=[
 a 0 5 26 [],
 l 26 27 [0],
 a 0 5 28 [],
 l 28 29 [2],
 C .add 29 1 30 [3],
 b .mul 27 30 31 [1,4],
 C .quo 31 2 32 [5],
 m 32 6 (k [6] 6)]
def Ub:ai:=[
 L 4 2 33 [],
 L 3 5 34 [],
 a 1 2 35 [],
 l 35 36 [2],
 a 0 5 37 [],
 l 37 38 [4],
 a 1 2 39 [],
 l 39 40 [6],
 n 6 41,
 b .mul 40 41 42 [7,8],
 o (.mkSlice 65 4 32 [(.int .i64 0),(.int .i64 0),(.int .i64 0),(.int .i64 0)] (t 42)) 43 [9,9],
 o (.build [V 0,V 0,.aW] [(0,1,(t 36)),(1,1,(t 38)),(2,1,(t 43))]) 44 [3,5,10],
 n 6 45,
 o (.build [V 0,V 0,V 0,.aW,V 0,.aW,.aW,V 0,V 0,.aW,V 0,V 0,V 0,(.v (.bool false))] [(0,4,(t 33)),(4,3,(t 34)),(7,3,(t 44)),(12,1,(t 45))]) 46 [0,1,11,12],
 o (.box (t 46)) 47 [13],
 m 47 4 (k [14] 14)]
def d1012:DC:=(j (y I5) (j (j (y y6) (.cond (.tmp 23) (j (y T8) .ret) .skip)) (j (y T9) (j (y Ua) (j (Y Ub) .ret)))))
def aas:List bV:=[.da 4]
def c1012 [bI]:aB aj 12 48 d1012 aas:=aB.of Tryz.f12 (by kernel_rfl)
def Uc:ai:=[
 n 0 2,
 o (.isNil 1 true (t 2)) 3 [0],
 m 3 4 [1],
 w 0 5 4 true [2],
 g (.nilCheck (t 5)) 6 4 true [3,2],
 u 12 6 7 4 true [4,2],
 v 7 8 4 true [5,2],
 E .gtr 8 0 9 4 true [6,2],
 q 4 9 10 [2,7]]
def d1014r1:ai:=[
 n 0 11,
 c 11 12 [0,0],
 a 13 12 13 [1,0],
 s (.store 1 (t 13) (.gN (.v (.bool true)))) [2,0]]
def d1014:DC:=(j (y Uc) (.cond (.tmp 10) (y d1014r1) .skip))
def LZ:List bV:=[]
def c1014 [bI]:aB aj 14 14 d1014 LZ:=aB.of Tryz.f14 (by kernel_rfl)
def CJ:ai:=[
 B 0 2,
 B 1 3,
 I 0 4]
def y7:ai:=[
 l 2 8 [],
 o (.isNil 1 false (t 8)) 9 [0],
 m 9 10 [1],
 v 2 11 10 false [2],
 g (.nilCheck (t 11)) 12 10 false [3,2],
 u 13 12 13 10 false [4,2],
 v 13 14 10 false [5,2],
 p 10 14 15 [2,6],
 m 15 16 [7,2],
 v 3 17 16 false [8],
 E .leq 17 0 18 16 false [9,8],
 p 16 18 19 [8,10]]
def I6:ai:=[
 I 0 4]
def Ud:ai:=[
 o (.alloc [V 0]) 5 [],
 s (.store 1 (t 5) (i 0)) [0,0]]
def Ue:ai:=[
 l 2 20 [],
 o (.call 30 [(t 20)]) 21 [0]]
def Uf:ai:=[
 n 22 6]
def Ug:ai:=[
 n 23 7]
def E7:ai:=[
 l 2 24 [],
 n 6 25,
 n 7 26,
 o (.callS 31 [(t 24),(t 25),(t 26)]) 27 [0,1,2]]
def d1017r7:ai:=E7.map bare
def Uh:ai:=[
 l 5 28 [],
 C .add 28 1 29 [0],
 S 1 5 29 [1,0,1]]
def Ui:ai:=[
 l 5 30 [],
 l 3 31 [],
 b .eql 30 31 32 [0,1]]
def E8:ai:=[
 l 5 33 [],
 m 33 4 [0,0]]
def d1017:DC:=(j (y CJ) (j (j (y y7) (.cond (.tmp 19) (j (y I6) .ret) .skip)) (j (y Ud) (j (j (y Ue) (.block 0 (.Id (.tmp 21) [22,23] (j (y Uf) (y Ug)) (.block 1 (j (y d1017r7) (j (y Uh) (j (y Ui) (.cond (.tmp 32) (.exit 0) .skip)))))))) (j (y E8) .ret)))))
def uK:List bV:=[.da 4]
def aat [bI]:aB aj 17 34 d1017 uK:=aB.of Tryz.f17 (by kernel_rfl)
def I7:ai:=[
 I 0 2]
def I8:ai:=[
 n 0 3,
 o (.isNil 1 false (t 3)) 4 [0]]
def Uj:ai:=[
 I 0 2]
def Uk:ai:=[
 n 0 5,
 c 5 6 [0],
 a 12 6 7 [1],
 l 7 8 [2],
 m 8 2 [3,0,1,2,3]]
def d1018:DC:=(j (y I7) (j (j (y I8) (.cond (.tmp 4) (j (y Uj) .ret) .skip)) (j (y Uk) .ret)))
def E9:List bV:=[.da 2]
def c1018 [bI]:aB aj 18 9 d1018 E9:=aB.of Tryz.f18 (by kernel_rfl)
def CK:ai:=[
 o (.alloc [V 0,V 0,.aW]) 2 [],
 I 0 3]
def CL:ai:=[
 n 0 5,
 o (.isNil 1 false (t 5)) 6 [0],
 m 6 4 [1]]
def Ul:ai:=[
 o (.build [V 0,V 0,.aW] []) 7 [],
 S 3 2 7 [0,0],
 o (.qu (i 15)) 3 [1,0,1]]
def I9:ai:=[
 n 0 9,
 c 9 10 [0],
 a 13 10 11 [1],
 l 11 12 [2],
 m 12 8 [3]]
def Um:ai:=[
 o (.build [V 0,V 0,.aW] []) 13 [],
 S 3 2 13 [0,0],
 o (.qu (i 12)) 3 [1,0,1]]
def Jd:ai:=[
 n 0 15,
 c 15 16 [0],
 a 12 16 17 [1],
 l 17 18 [2],
 C .gtr 18 0 19 [3],
 m 19 14 [4]]
def Un:ai:=[
 o (.build [V 0,V 0,.aW] []) 20 [],
 S 3 2 20 [0,0],
 o (.qu (i 15)) 3 [1,0,1]]
def Uo:ai:=[
 n 0 21,
 c 21 22 [0],
 a 7 22 23 [1],
 L 3 23 24 [2],
 S 3 2 24 [3,0,1,2,3],
 o (.qu (i 0)) 3 (k [4] 4)]
def d1019:DC:=(j (y CK) (j (.block 0 (j (y CL) (.cond (.tmp 4) (j (y Ul) .ret) (j (y I9) (.cond (.tmp 8) (j (y Um) .ret) (j (y Jd) (.cond (.tmp 14) (j (y Un) .ret) .skip))))))) (j (y Uo) .ret)))
def q9:List bV:=[.cell 2 3 true,.da 3]
def aau [bI]:aB aj 19 25 d1019 q9:=aB.of Tryz.f19 (by kernel_rfl)
def Up:ai:=[
 o (.alloc [V 0,V 0,V 0,.aW]) 0 [],
 o (.alloc [.aW,.aW,V 0]) 1 []]
def Uq:ai:=[
 o (.build [V 0,V 0,V 0,V 0,V 0,V 0] [(0,1,(i 2)),(4,1,(i 2))]) 2 [],
 o (.bslice 1 6 [V 0,V 0,V 0,V 0,V 0,V 0] [(0,6,(t 2))]) 3 [0],
 o (.build [V 0,V 0,V 0,.aW] [(0,1,(i 1)),(1,1,(i 1)),(3,1,(t 3))]) 4 [1],
 o (.bslice 1 1 [V 0] [(0,1,(i 0))]) 5 [],
 o (.build [V 0,.aW,V 0] [(1,1,(t 5)),(2,1,(i 3))]) 6 [3],
 o (.bslice 1 3 [V 0,.aW,V 0] [(0,3,(t 6))]) 7 [4],
 o (.bslice 1 1 [V 0] [(0,1,(i 4))]) 8 [],
 o (.build [.aW,.aW,V 0] [(0,1,(t 7)),(1,1,(t 8))]) 9 [5,6],
 S 4 0 4 [2,0,1,2],
 S 3 1 9 (k [7,8] 8)]
def d1021:DC:=(j (y Up) (j (y Uq) .ret))
def L5:List bV:=[.cell 0 4 true,.cell 1 3 true]
def c1021 [bI]:aB aj 21 10 d1021 L5:=aB.of Tryz.f21 (by kernel_rfl)
def Ur:ai:=[
 B 0 2,
 F 4]
def y8:ai:=[
 a 3 2 5 [],
 l 5 6 [0],
 N 6 7 [1],
 C .leq 7 60 8 [2],
 m 8 9 [3],
 u 1 2 10 9 true [4],
 v 10 11 9 true [5,4],
 E .leq 11 60 12 9 true [6,4],
 q 9 12 13 [4,7],
 m 13 14 [8,4],
 w 1 15 14 true [9],
 H 15 16 14 true [10,9],
 E .leq 16 30 17 14 true [11,9],
 q 14 17 18 [9,12],
 m 18 4 (k [13,9] 13)]
def d1024:DC:=(j (y Ur) (j (y y8) .ret))
def L6:List bV:=[.da 4]
def c1024 [bI]:aB aj 24 19 d1024 L6:=aB.of Tryz.f24 (by kernel_rfl)
def Us:ai:=[
 B 0 3,
 F 6]
def CM:ai:=[
 a 0 3 8 [],
 l 8 9 [0],
 N 9 10 [1],
 n 1 11,
 b .gtr 10 11 12 [2,3],
 m 12 13 [4],
 u 1 3 14 13 false [5],
 v 14 15 13 false [6,5],
 H 15 16 13 false [7,5],
 w 2 17 13 false [5],
 D .gtr 16 17 18 13 false [8,9,5],
 p 13 18 19 [5,10]]
def Ut:ai:=[
 F 6]
def Uu:ai:=[
 I 0 7]
def Uv:ai:=[
 n 7 20,
 a 0 3 21 [],
 l 21 22 [1],
 N 22 23 [2],
 b .lss 20 23 24 [0,3]]
def Uw:ai:=[
 a 0 3 27 [],
 l 27 28 [0],
 n 7 29,
 x 3 28 29 30 [1,2],
 a 1 30 31 [3],
 l 31 32 [4],
 N 32 33 [5],
 n 2 34,
 b .gtr 33 34 35 [6,7]]
def Ux:ai:=[
 F 6]
def Uy:ai:=[
 n 7 25,
 C .add 25 1 26 [0],
 m 26 7 [1,0,1]]
def Uz:ai:=[
 R 6]
def d1025:DC:=(j (y Us) (j (j (y CM) (.cond (.tmp 19) (j (y Ut) .ret) .skip)) (j (j (y Uu) (.block 0 (.loop (j (j (y Uv) (.cond (.tmp 24) .skip (.exit 0))) (j (.block 1 (j (y Uw) (.cond (.tmp 35) (j (y Ux) .ret) .skip))) (y Uy)))))) (j (y Uz) .ret))))
def y9:List bV:=[.da 6]
def c1025 [bI]:aB aj 25 36 d1025 y9:=aB.of Tryz.f25 (by kernel_rfl)
def UA:ai:=[
 B 0 1,
 o (.qu (.gN (.v (.mg (Go.Value.nilFunc))))) 2 []]
def UB:ai:=[
 o (.mkFn (.func 51) [(t 1)]) 3 [],
 m 3 2 [0,0]]
def d1030:DC:=(j (y UA) (j (y UB) .ret))
def aav:List bV:=[.da 2]
def c1030 [bI]:aB aj 30 4 d1030 aav:=aB.of Tryz.f30 (by kernel_rfl)
def UC:ai:=[
 n 1 7,
 n 0 8,
 c 8 9 [1],
 a 4 9 10 [2],
 a 0 10 11 [3],
 l 11 12 [4],
 b .mul 7 12 13 [0,5],
 n 1 14,
 n 1 15,
 C .sub 15 1 16 [8],
 b .mul 14 16 17 [7,9],
 C .quo 17 2 18 [10],
 b .sub 13 18 19 [6,11],
 n 2 20,
 b .add 19 20 21 [12,13],
 n 1 22,
 b .sub 21 22 23 [14,15],
 m 23 6 (k [16] 16)]
def d1031r1:ai:=[
 n 0 24,
 c 24 25 [0],
 a 7 25 26 [1],
 a 2 26 27 [2],
 l 27 28 [3],
 n 6 29,
 n 0 30,
 c 30 31 [6],
 a 0 31 32 [7],
 a 1 32 33 [8],
 l 33 34 [9],
 b .mul 29 34 35 [5,10],
 o (.slice 4 (t 28) (some (t 35)) none) 36 [4,11],
 n 0 37,
 c 37 38 [13],
 a 0 38 39 [14],
 L 4 39 40 [15],
 n 0 41,
 c 41 42 [17],
 a 4 42 43 [18],
 L 3 43 44 [19],
 n 0 45,
 c 45 46 [21],
 a 7 46 47 [22],
 L 3 47 48 [23],
 n 1 49,
 n 2 50,
 o (.call 52 [(t 40),(t 44),(t 48),(t 49),(t 50)]) 51 [16,20,24,25,26],
 o (.copy 4 (t 36) (t 51)) 52 [12,27,27]]
def d1031:DC:=(j (y UC) (Y d1031r1))
def L7:List bV:=[]
def c1031 [bI]:aB aj 31 53 d1031 L7:=aB.of Tryz.f31 (by kernel_rfl)
def UD:ai:=[
 l 1 5 [],
 c 5 6 [0],
 a 12 6 7 [1],
 l 7 8 [2],
 C .gtr 8 0 9 [3]]
def UE:ai:=[
 l 1 10 [],
 c 10 11 [0],
 a 11 11 12 [1],
 l 12 13 [2],
 l 1 14 [],
 c 14 15 [4],
 a 11 15 16 [5],
 l 16 17 [6],
 l 1 18 [],
 c 18 19 [8],
 a 10 19 20 [9],
 l 20 21 [10],
 b .add 17 21 22 [7,11],
 m 13 3 [3,0,1,2,3],
 m 22 4 (k [12,13] 13)]
def UF:ai:=[
 l 1 23 [],
 c 23 24 [0],
 a 12 24 25 [1],
 l 25 26 [2],
 C .sub 26 1 27 [3],
 c 23 28 (k [0] 4),
 a 12 28 29 (k [5] 4),
 S 1 29 27 (k [6,4] 4)]
def UG:ai:=[
 l 1 30 [],
 c 30 31 [0],
 a 11 31 32 [1],
 l 32 33 [2],
 C .add 33 1 34 [3],
 c 30 35 (k [0] 4),
 a 11 35 36 (k [5] 4),
 S 1 36 34 (k [6,4] 4)]
def UH:ai:=[
 l 1 37 [],
 c 37 38 [0],
 a 11 38 39 [1],
 l 39 40 [2],
 l 1 41 [],
 c 41 42 [4],
 a 10 42 43 [5],
 l 43 44 [6],
 b .add 40 44 45 [3,7],
 l 1 46 [],
 c 46 47 [9],
 a 4 47 48 [10],
 a 0 48 49 [11],
 l 49 50 [12],
 b .geq 45 50 51 [8,13]]
def Je:ai:=[
 l 1 52 [],
 l 1 53 [],
 l 1 54 [],
 c 54 55 [2],
 a 10 55 56 [3],
 l 56 57 [4],
 C .add 57 1 58 [5],
 c 52 59 [0,0,2,3,4,5,6],
 a 10 59 60 [7,0,2,3,4,5,6],
 S 1 60 58 [8,6,0,2,3,4,5,6],
 c 53 61 (k [1] 9),
 a 11 61 62 (k [10] 9),
 s (.store 1 (t 62) (i 0)) (k [11,9] 9)]
def UI:ai:=[
 n 0 63,
 n 3 64,
 n 4 65,
 o (.callv (t 63) [(t 64),(t 65)]) 66 [0,1,2],
 U 66 67 [3]]
def d1051:DC:=(.block 0 (.loop (j (j (y UD) (.cond (.tmp 9) .skip (.exit 0))) (.block 1 (j (Y UE) (j (y UF) (j (y UG) (j (j (Y UH) (.cond (.tmp 51) (.jr Je) .skip)) (j (y UI) (.cond (.tmp 67) .ret .skip))))))))))
def aaw:List bV:=[]
def c1051 [bI]:aB aj 51 68 d1051 aaw:=aB.of Tryz.f51 (by kernel_rfl)
end cC
section
variable{α:Type}
abbrev ti(n:Int):T:=.int .i64 n
def dH:T->Int
 |.int _ n=>n
 |_=>0
structure cw where
 (f t term aH:Int)
 ops:List (Int×Int)
 deriving DecidableEq,Inhabited
structure aV where
 bn:Int
 bE:List cw
 uH:bO
structure cK where
 kind:Int
 read:bO
 delete:Int
 deriving Inhabited
structure Input where
 aw:List cK
 insert:bO
 swap:Int
def ia(l:List (Int×Int)):List (aK):=l.map λo=>[ti o.1,ti o.2]
def cw.enc(a:cw):aK:=[ti a.f,ti a.t,ti a.term,ti a.aH,.sl (ia a.ops)]
def j7(l:List cw):List (aK):=l.map cw.enc
def aG(l:bO):List (aK):=l.map λx=>[ti x]
def aV.enc(l:aV):T:=.agg [ti l.bn,.sl (j7 l.bE),.sl (aG l.uH)]
def cK.enc(c:cK):aK:=[ti c.kind,.sl (aG c.read),ti c.delete]
def cY(l:List cK):List (aK):=l.map cK.enc
def Input.enc(x:Input):T:=.agg [.sl (cY x.aw),.sl (aG x.insert),ti x.swap]
def gq{β:Type}{f:α->β}{g:β->α}(h:∀a,g (f a)=a)(l:List α):(l.map f).map g=l:=by
 rw[Zc4];conv=>rhs;rw[<-List.map_id l]
 exact Zbq λa _=>h a
def lS(l:List (aK)):bO:=l.map λx=>dH (x.getD 0 (ti 0))
def AG(l:List (aK)):List (Int×Int):=l.map λx=>(dH (x.getD 0 (ti 0)),dH (x.getD 1 (ti 0)))
def wZ:aK->cw
 |[a,b,c,d,.sl o]=>⟨dH a,dH b,dH c,dH d,AG o⟩
 |_=>default
def Jh(l:List (aK)):List cw:=l.map wZ
def sP:aK->cK
 |[a,.sl b,c]=>⟨dH a,lS b,dH c⟩
 |_=>default
def CO(l:List (aK)):List cK:=l.map sP
def decL:T->aV
 |.agg [a,.sl b,.sl c]=>⟨dH a,Jh b,lS c⟩
 |_=>⟨0,[],[]⟩
@[simp] def Ms(l:bO):lS (aG l)=l:=gq (λ_=>rfl) l
@[simp] def Pr(l:List (Int×Int)):AG (ia l)=l:=gq (λ_=>rfl) l
@[simp] def w6(a:cw):wZ a.enc=a:=by simp[wZ,cw.enc,dH]
@[simp] def decArcs_enc(l:List cw):Jh (j7 l)=l:=gq w6 l
@[simp] def pn(a:cK):sP a.enc=a:=by simp[sP,cK.enc,dH]
@[simp] def decCols_enc(l:List cK):CO (cY l)=l:=gq pn l
@[simp] def decL_enc'(a:Int)(l:List cw)(f:bO):decL (.agg [ti a,.sl (j7 l),.sl (aG f)])=⟨a,l,f⟩:=by simp[decL,dH]
@[simp] def decL_enc(n:aV):decL n.enc=n:=by simp[aV.enc]
def cE{l:bO}{y:Nat}(h:y<l.length):DM.rowAt (aG l) y=[ti (l.getD y default)]:=by simp[DM.rowAt,aG,h]
def w7{l:List cw}{y:Nat}(h:y<l.length):DM.rowAt (j7 l) y=(l.getD y default).enc:=by simp[DM.rowAt,j7,h]
def jJ{l:List cK}{y:Nat}(h:y<l.length):DM.rowAt (cY l) y=(l.getD y default).enc:=by simp[DM.rowAt,cY,h]
@[simp] def intsT_len(l:bO):(aG l).length=l.length:=by simp[aG]
@[simp] def opsT_len(l:List (Int×Int)):(ia l).length=l.length:=by simp[ia]
@[simp] def arcsT_len(l:List cw):(j7 l).length=l.length:=by simp[j7]
@[simp] def colsT_len(l:List cK):(cY l).length=l.length:=by simp[cY]
abbrev mn:List Sh:=[.int .i64,.int .i64,.int .i64]
def keyOf(f t x:Int):T:=.agg [ti f,ti t,ti x]
def cw.key(a:cw):T:=keyOf a.f a.t a.term
def entries(al:List cw):List (Nat×T×DV):=al.zipIdx.map λp=>(p.2,p.1.key,.v (.agg p.1.enc))
def cL(al:List cw):Ob:=.map mn true al.length (entries al)
def df(x:Input)(m:Nat):bB:=[.v (.sl (cY x.aw)),.v (.sl (aG x.insert)),.v (ti x.swap),.iE m]
def aY(a b:cw):Bool:=decide (a.f=b.f/\a.t=b.t/\a.term=b.term)
def wv(al:List cw)(a:cw):List cw:=
 if a.aH<1099511627776 then
  match al.findIdx? (aY a)with
  |none=>al++[a]
  |some i=>if a.aH<(al.getD i default).aH then al.set i a else al
 else al
def Js:DV->Int
 |.v (.agg [_,_,_,.int _ c,_])=>c
 |_=>0
def w8(k:T)(c:Int)(es:List (Nat×T×DV)):Bool:=
 decide (c<1099511627776)&&match qP k es with|none=>true|some e=>decide (c<Js e.2.2)
def rC(k:T)(c:Int)(y:DV)(w9:Nat)(es:List (Nat×T×DV)):List (Nat×T×DV):=if w8 k c es then HJ k y w9 es else es
def xb(k:T)(c:Int)(w9:Nat)(es:List (Nat×T×DV)):Nat:=if w8 k c es then oR k w9 es else w9
def key_eq(a b:cw):gO a.key b.key=aY a b:=by
 simp[cw.key,keyOf,gO,tl,aY]
def qa(a:cw)(al:List cw):((entries al).findIdx? λe=>gO a.key e.2.1)=al.findIdx? (aY a):=by
 have h:∀(l:List cw) (i:Nat),(((l.zipIdx i).map λp=>((p.2,p.1.key,DV.v (.agg p.1.enc)):Nat×T×DV)).findIdx? λe=>gO a.key e.2.1)=l.findIdx? (aY a):=by
  intro l;induction l with
  |nil=>intro i;rfl
  |cons b l ih=>intro i;simp only[ZcI,ZaA,Zbh,key_eq,ih (i+1)]
 exact h al 0
def gU(al:List cw)(i:Nat):(entries al)[i]? =(al[i]?).map λa=>(i,a.key,.v (.agg a.enc)):=by
 simp[entries,Zbx,List.getElem?_zipIdx,Function.comp_def]
def ld(al:List cw):(entries al).length=al.length:=by simp[entries]
def Wd(al:List cw):∀e∈entries al,∃a:cw,e.2.2=.v (.agg a.enc):=by
 intro e he;simp only[entries,Zak]at he;obtain⟨p,_,rfl⟩:=he;exact⟨p.1,rfl⟩
def vF{p:α->Bool}{l:List α}{i:Nat}(h:l.findIdx? p=some i):i<l.length:=by
 rw[Zbm]at h;exact h.1
def Fu(a:cw)(al:List cw):w8 a.key a.aH (entries al)=(decide (a.aH<1099511627776)&&match al.findIdx? (aY a)with|none=>true|some i=>decide (a.aH<(al.getD i default).aH)):=by
 unfold w8;rw[yD,qa];cases h:al.findIdx? (aY a)with
 |none=>rfl
 |some i=>
  have hi:=vF h;simp[gU,hi,Js,cw.enc];rfl
def Jt(a:cw)(al:List cw):rC a.key a.aH (.v (.agg a.enc)) al.length (entries al)=entries (wv al a)/\xb a.key a.aH al.length (entries al)=(wv al a).length:=by
 unfold rC xb wv;rw[Fu];by_cases hc:a.aH<1099511627776
 ·simp only[hc,decide_true,ZcF,if_true];cases h:al.findIdx? (aY a)with
  |none=>
   simp only[if_true,HJ,oR,qa,h];refine⟨?_,by simp⟩;apply ZbN;intro j;rw[gU,ZcM,ZcM,ld,gU];split
   ·rfl
   ·rename_i hj;by_cases hj2:j=al.length
    ·subst hj2;simp
    ·rw[Zbs (by simp;omega),Zbs (by simp;omega)];rfl
  |some i=>
   have hi:=vF h;have OE:a.key=(al.getD i default).key:=by
    rw[Zbm]at h;obtain⟨_,h1,_⟩:=h;simp only[aY,Zau]at h1;simp[cw.key,keyOf,List.getD,hi,h1]
   simp only;by_cases h2:a.aH<(al.getD i default).aH
   ·simp only[h2,decide_true,if_true,HJ,oR,qa,h];refine⟨?_,by simp⟩;apply ZbN;intro j;rw[gU,List.getElem?_modify,gU,ZbC];by_cases hj:i=j
    ·subst hj;simp[hi,OE,List.getD]
    ·simp[hj]
   ·simp only[h2,decide_false,ZaW,if_false];exact⟨trivial,trivial⟩
 ·simp[hc]
end
section
variable{f:bq}{low:Nat}
def cF:ay aj (bu []):=ay.nil
def bL{l:cV}{r:Nat}(hf:dh f low)(h:low<=r)(hl:∀p∈l,p.1≠r):gone (aM l f) id r:=by
 intro r' gD e;simp only[id]at e;subst e;cases ho:aM l f r' with
 |none=>exact gD ho
 |some o=>
  rcases qX ho with h1|⟨_,h1⟩
  ·exact hl _ h1 rfl
  ·have:=(hf r' o h1).1;omega
def gV:List cK->Int->Int
 |[],c=>c
 |x::l,c=>gV l (min (c+x.delete) 1099511627776)
def gz(n:Nat):List (Int×Int):=List.replicate n (2,0)
def Ju(l:List cK)(x:cK)(c:Int):gV (l++[x]) c=min (gV l c+x.delete) 1099511627776:=by
 induction l generalizing c with
 |nil=>rfl
 |cons y l ih=>simp[gV,ih]
def wn{l:List cK}(h:∀c∈l,0<=c.delete):∀c,0<=c/\c<=1099511627776->0<=gV l c/\gV l c<=1099511627776:=by
 induction l with
 |nil=>intro c hc;exact hc
 |cons y l ih=>
  intro c hc;have:=h y (by simp);exact ih (λz hz=>h z (by simp[hz])) _ (by omega)
def Ps(l:List cK)(n:Nat):(cY l).take n=cY (l.take n):=by simp[cY,List.map_take]
def Pt(l:List cK)(n:Nat):(cY l).drop n=cY (l.drop n):=by simp[cY,List.map_drop]
def tj(cols:List cK):Prop:=cols.length<=1000000/\∀c∈cols,0<=c.delete/\c.delete<=1099511627776
def t31{b m:Nat}{x:Input}{i j:Nat}{N:Nat}(hN:∀r,N<=r->f r=none)(hb:f b=some (.box (df x m)))(hij:i<=j)(hj:j<=x.aw.length)(hd:tj x.aw):
  aR aj 48 [.ptr b 0,.v (ti i),.v (ti j)] f ⟨True,.v (.eo [ti (gV ((x.aw.take j).drop i) 0),.sl (ia (gz (j-i)))]),f⟩:=by
 have aC:=cF;refine c31.pQ hN (by simp) λaT=>?_;have UN:b<N:=(aT b _ hb).1;obtain⟨part,Mt⟩:=bb ((x.aw.take j).drop i);have Vj:part.length=j-i:=by rw[<-Mt];simp;omega
 have hpd:∀c∈part,0<=c.delete/\c.delete<=1099511627776:=λc hc=>hd.2 c (by rw[<-Mt]at hc;exact ZaE (ZbW hc));have Vo:((cY x.aw).take j).drop i=cY part:=by rw[Ps,Pt,Mt]
 have eF:∀r∈cY x.aw,r.length=3:=by intro r hr;simp only[cY,Zak]at hr;obtain⟨c,_,rfl⟩:=hr;rfl
 have dM:=hd.1;rw[Mt];clear Mt;simp;apply aa.ag aC fw [0,1,2,7];simp[d31r0];apply aa.ag aC fw [0,1,2,8];simp[d31r1];apply aa.ag aC fw [0,1,2,8,9];simp[d31r2];apply aa.seq;apply aa.ag aC fw [8,9,19,20,21];simp[d31r3,hb,df,hij,hj,Vo];refine⟨eF, ?_⟩;refine aa.le (Le.dV (l1:=[]) (l:=[(8,.v (ti 0)),(9,.aW),(19,.v (.sl (cY part))),(20,.v (ti part.length)),(21,.v (ti 0))]) (ba:=N+200) aT ?_ ?_ ?_ ?_ ?_) ?_
 ·omega
 ·simp
 ·simp[bK]
 ·simp[dN]
 ·simp
 refine aa.le (Le.vr (k:=9) 117 (sz:=2) (by omega) (by simp)) ?_;rw[jT];apply aa.block;refine aa.loop (λy:Nat=>⟨DM.look [(8,.v (ti (gV (part.take y) 0))),(9,.bA (N+200) 0),(19,.v (.sl (cY part))),(20,.v (ti part.length)),(21,.v (ti y))],aM [(N+200,.arr 0 117 2 (ia (gz y)))] f,N+300,N,[]⟩)
  (λy=>y<=part.length) (λy=>part.length-y) 0 (Le.dV aT ?_ ?_ ?_ ?_ ?_) (by simp) (λy hy=>?_)
 ·omega
 ·simp
 ·simp[bK]
 ·simp[dN,eA,gz,ia]
 ·simp[gV]
 apply aa.ag aC fw [8,9,19,20,21,22];simp[d31r4];apply aa.seq;have tV:=wn (l:=part.take y) (λc hc=>(hpd c (ZaE hc)).1) 0 (by omega);refine aa.cond rfl (λhc=>?_) (λhc=>?_)
 ·simp at hc;apply aa.skip;simp;apply aa.seq;apply aa.block;apply aa.ag aC fw [8,9,11,19,20,21];have hrow:=jJ hc;obtain⟨c,Cl⟩:=bb (part[y]);have XD:c∈part:=by rw[<-Cl];exact Zbe hc
  have QT:=hpd c XD;have XF:part.take (y+1)=part.take y++[c]:=by rw[ZbO,Zas hc,Cl];rfl
  simp[d31r5,hrow,Cl,hc,cK.enc];apply aa.ag aC fw [8,9,11,19,20,21];simp[d31r6];rw[aF (by omega)];apply aa.fK aC fw [8,9,19,20,21];simp[d31r7,dK,fU];refine⟨by
    have:(gz y).length=y:=by simp[gz]
    omega, ?_⟩
  apply aa.fK aC fw [8,9,19,20,21];simp[d31r8];refine⟨y+1,Le.dV aT ?_ ?_ ?_ ?_ ?_,by omega,by omega⟩
  ·omega
  ·simp
  ·simp[bK];omega
  ·simp[dN,eA,gz,ia,ZcN]
  ·simp[XF,Ju];rw[aF (by omega)]
 ·simp at hc;have zW:y=part.length:=by omega
  subst zW;apply aa.exit;simp;apply aa.ag aC fw [6,7];simp[d31r9];refine aa.le (Le.dV (l1:=[]) (l:=[(6,.v (ti (gV part 0))),(7,.v (.sl (ia (gz part.length))))]) (ba:=N+1000) aT ?_ ?_ ?_ ?_ ?_) ?_
  ·omega
  ·simp
  ·simp[bK]
  ·simp[dN]
  ·simp;exact bL aT (by omega) (by simp)
  apply aa.ret;simp[d31res,Vj];rfl
def dc(x:Input)(m:Nat):Bool:=
 decide (m+1<x.aw.length/\0<x.swap/\0<=(x.aw.getD m default).kind/\0<=(x.aw.getD (m+1) default).kind)
def t50{b m:Nat}{x:Input}{i:Nat}{N:Nat}(hN:∀r,N<=r->f r=none)(hb:f b=some (.box (df x m)))(hi:i<=1000000)(hl:x.aw.length<=1000000):
  aR aj 77 [.ptr b 0,.v (ti i)] f ⟨True,.v (.bool (dc x i)),f⟩:=by
 have aC:=cF;refine c50.pQ hN (by simp) λaT=>?_;simp;apply aa.ag aC fw [0,1,4];simp[d50r0];apply aa.ag aC fw [0,1,5];simp[d50r1,hb,df];have hw:IntKind.i64.wrap ((i:Int)+1)=i+1:=aF (by omega);refine aa.cz aC fw [(4,.v (.bool (dc x i)))] ?_ ?_
 ·by_cases h1:i+1<x.aw.length
  ·have sg:=jJ (l:=x.aw) (y:=i) (by omega);have xV:DM.rowAt (cY x.aw) ((i:Int)+1)=(x.aw.getD (i+1) default).enc:=jJ (l:=x.aw) h1;obtain⟨c1,bU⟩:=bb (x.aw.getD i default);obtain⟨c2,gI⟩:=bb (x.aw.getD (i+1) default);rw[bU]at sg;rw[gI]at xV;have hd1:((i:Int)+1<x.aw.length)=True:=by simp;omega
   have hd2:((i:Int)<x.aw.length)=True:=by simp;omega
   have hd3:(0<=(i:Int)+1)=True:=by simp;omega
   have hd4:i<x.aw.length:=by omega
   have Nx:dc x i=(decide (0<x.swap)&&(decide (0<=c1.kind)&&decide (0<=c2.kind))):=by
    unfold dc;rw[bU,gI];simp[h1]
   by_cases s1:0<x.swap<;>by_cases s2:0<=c1.kind<;>by_cases s3:0<=c2.kind<;>simp[d50r2,hb,df,hw,sg,xV,hd1,hd2,hd3,cK.enc,s1,s2,s3,Nx]
  ·have hd1:((i:Int)+1<x.aw.length)=False:=by simp;omega
   simp[d50r2,hw,hd1];simp[dc]
   intros;omega
 apply aa.ret;simp[d50res];rfl
def Le.We{tm:dw}{ob:bq}{aJ:Nat}{td:List (aK)}{P:Program}{nt:Nat}{d:DC}{Q:Exit->l8->Prop}{k:Nat}(hk:tm k=.v (.sl []))
  (h:∀(p:Option Addr) (c:Nat),aa P nt d Q ⟨cU tm (some k) (.v (.mg (.slice p 0 c))),ob,aJ,low,td⟩):aa P nt d Q ⟨tm,ob,aJ,low,td⟩:=by
 refine⟨λc hc n κ a w L g r=>?_⟩;obtain⟨W,base,M,w0,dP,h0⟩:=r.r.ex;have hx:=h0.tmps k;simp only[hk,aA,bj]at hx;have mh:∃(p:Option Addr) (cp:Nat),a.tmps.getD k Go.undef=.slice p 0 cp:=by
  rcases hx with⟨_,p,cp,hx⟩|⟨b,o,cp,sz,hx,_⟩
  ·exact⟨p,cp,hx⟩
  ·exact⟨_,cp,hx⟩
 obtain⟨p,cp,hx⟩:=mh;refine(h p cp).run c hc n κ a w L g ⟨⟨⟨W,base,M,w0,dP,h0.size,λt=>?_,h0.o⟩,r.r.eZ,r.r.defers,r.r.bg,r.r.bZ⟩,r.fresh,r.low,r.it⟩;simp only[cU];by_cases ht:t=k
 ·subst ht;simp only[if_true,aA,bj];exact hx
 ·simp only[ht,if_false];exact h0.tmps t
def t49(l:List (Int×Int))(hl:l.length<=1000000):oW aj 76 [.sl (ia l)] 117 2 (ia l):=by
 have aC:=cF;refine c49.okF (by simp) (aO ?_);simp;have eF:∀r∈ia l,r.length=2:=by intro r hr;simp only[ia,Zak]at hr;obtain⟨c,_,rfl⟩:=hr;rfl
 apply aa.ag aC fw [0,2];simp[d49r0];cases l with
 |nil=>
  refine Le.We (k:=0) (by simp[ia]) λp c=>?_;apply aa.seq;apply aa.ag aC fw [0,2,4];simp[d49r1];refine aa.cond rfl (λh=>?_) (λh=>?_)
  ·apply aa.ag aC fw [2];simp[d49r2];apply aa.ret;exact .inl ⟨by simp,by simp[ia],by omega⟩
  ·apply aa.skip;simp;apply aa.ag aC fw [2];simp[d49r3,dK];apply aa.ret;exact .inr ⟨1026,0,by simp,by simp[ia]⟩
 |cons o l=>
  apply aa.seq;apply aa.ag aC fw [0,2,4];simp[d49r1];refine⟨by simp[ia], ?_⟩;refine aa.cond rfl (λh=>by cases h) (λh=>?_);apply aa.skip;simp;apply aa.ag aC fw [2];simp[d49r3,dK];refine⟨⟨eF,by simp at hl⊢;omega⟩, ?_⟩;apply aa.ret;exact .inr ⟨1026,0,by simp,by simp⟩
end
variable [bI]
def okE:ay aj (bu []):=ay.nil
def tG(a b:Int):Int:=if a<b then-1 else if b<a then 1 else 0
def UP(l:bO):Int:=(l.find? λx=>x !=0).getD 0
def fa(x y:aK):Int:=UP [tG (dH (x.getD 0 (ti 0))) (dH (y.getD 0 (ti 0))),tG (dH (x.getD 1 (ti 0))) (dH (y.getD 1 (ti 0))),tG (dH (x.getD 2 (ti 0))) (dH (y.getD 2 (ti 0)))]
def t71(a:Int):bl aj 118 [ti a] (.bool false):=by
 have aC:=okE;refine c71.ok (by simp) (aO ?_);simp;apply aa.ag aC fw [0];simp[d71r0];apply aa.ag aC fw [2];simp[d71r1];apply aa.ret;simp[d71res]
abbrev spec71:DM.Spec:=cT (λts=>∃a,ts=[ti a]) (λ_=>.bool false) true
def ok71:ay aj (bu [(118,spec71)]):=by
 refine ay.cons ay.nil ?_;rintro ts ⟨a,rfl⟩;exact⟨t71 a,λ_=>rfl⟩
def t54(a b:Int):bl aj 81 [ti a,ti b] (ti (tG a b)):=by
 have aC:=ok71;refine c54.ok (by simp) (aO ?_);simp;apply aa.ag aC fw [0,1];simp[Lf];apply aa.ag aC fw [0,1,5];simp[Lg];apply aa.ag aC fw [0,1,5,6];simp[d54r2];apply aa.seq;apply aa.ag aC fw [0,1,6,11];simp[d54r3];refine aa.cond rfl (λh=>by cases h) (λh=>?_);apply aa.skip;simp;apply aa.seq;apply aa.ag aC fw [0,1,13];simp[d54r7];refine aa.cond rfl (λh=>by cases h) (λh=>?_);apply aa.skip;simp;apply aa.seq;apply aa.ag aC fw [0,1,16];simp[d54r9];refine aa.cond rfl (λh=>?_) (λh=>?_)
 ·simp at h;apply aa.ag aC fw [4];simp[d54r10];apply aa.ret;simp[AB,tG,h]
 ·simp at h;apply aa.skip;simp;apply aa.seq;apply aa.ag aC fw [0,1,19];simp[d54r11];refine aa.cond rfl (λh2=>?_) (λh2=>?_)
  ·simp at h2;apply aa.ag aC fw [4];simp[d54r12];apply aa.ret;simp[AB,tG,h2,show ¬a<b by omega]
  ·simp at h2;apply aa.skip;simp;apply aa.ag aC fw [4];simp[d54r13];apply aa.ret;simp[AB,tG,show ¬a<b by omega,show ¬b<a by omega]
def orI_skip{l:bO}{y:Nat}(hy:y<l.length)(h:l.getD y default=0):UP (l.drop y)=UP (l.drop (y+1)):=by
 rw[ZbF hy];have:l[y]=0:=by simpa [List.getD,hy]using h
 simp[UP,this]
def orI_hit{l:bO}{y:Nat}(hy:y<l.length)(h:l.getD y default≠0):UP (l.drop y)=l.getD y default:=by
 rw[ZbF hy];have e:l.getD y default=l[y]:=by simp[List.getD,hy]
 rw[e]at h⊢;simp only[UP,Za6,Zbd,(bne_iff_ne (a:=l[y]) (b:=(0:Int))).2 h]
def t53(l:bO)(hl:l.length<=1000000):bl aj 80 [.sl (aG l)] (ti (UP l)):=by
 have aC:=okE;refine c53.ok (by simp) (aO ?_);simp;apply aa.ag aC fw [0];simp[d53r0];apply aa.ag aC fw [0,3];simp[d53r1];apply aa.seq;apply aa.ag aC fw [3,6,7,8];simp[d53r2];apply aa.block;refine aa.loop (λy:Nat=>⟨DM.look [(3,.v (ti 0)),(6,.v (.sl (aG l))),(7,.v (ti l.length)),(8,.v (ti y))],cM [],2000,1000,[]⟩)
  (λy=>y<=l.length/\UP (l.drop y)=UP l) (λy=>l.length-y) 0 (Le.bi (o:=[]) ?_ ?_ ?_ ?_) (by simp) (λy hy=>?_)
 iterate 4(·simp)
 obtain⟨lq,fJ⟩:=hy;apply aa.ag aC fw [3,6,7,8,9];simp[d53r3];apply aa.seq;refine aa.cond rfl (λh=>?_) (λh=>?_)
 ·simp at h;apply aa.skip;simp;apply aa.seq;apply aa.block;have hr:=cE h;obtain⟨p,hp⟩:=bb (l.getD y default);rw[hp]at hr;apply aa.ag aC fw [3,5,6,7,8];simp[d53r4,hr,h];apply aa.ag aC fw [3,5,6,7,8,14];simp[d53r5];refine aa.cond rfl (λh2=>?_) (λh2=>?_)
  ·simp at h2;apply aa.ag aC fw [2];simp[d53r6];apply aa.ret;rw[orI_hit h (by rw[hp];exact h2),hp]at fJ;simp[Pq,fJ]
  ·simp at h2;apply aa.skip;simp;apply aa.fK aC fw [3,6,7,8];simp[d53r7];rw[aF (by omega)];refine⟨y+1,Le.bi (o:=[]) ?_ ?_ ?_ ?_,⟨by omega, ?_⟩,by omega⟩;iterate 4(·simp)
   ·rw[<-fJ,orI_skip h (by rw[hp];exact h2)]
 ·simp at h;apply aa.exit;simp;apply aa.ag aC fw [2];simp[d53r8];apply aa.ret;have:l.drop y=[]:=Zbv (by omega);rw[this]at fJ;simp only[Pq];rw[<-fJ];simp[UP]
abbrev spec54:DM.Spec:=cT (λts=>∃a b,ts=[ti a,ti b]) (fun|[.int _ a,.int _ b]=>ti (tG a b)|_=>.bool false) true
abbrev spec53:DM.Spec:=cT (λts=>∃l:bO,ts=[.sl (aG l)]/\l.length<=1000000) (fun|[.sl l]=>ti (UP (lS l))|_=>.bool false) true
def ok54:ay aj (bu [(81,spec54),(80,spec53)]):=by
 refine ay.cons (ay.cons ay.nil ?_) ?_
 ·rintro ts ⟨l,rfl,h⟩;have:=t53 l h;rw[<-Ms l]at this;exact⟨by simpa using t53 l h,λ_=>rfl⟩
 ·rintro ts ⟨a,b,rfl⟩;exact⟨t54 a b,λ_=>rfl⟩
def t33(a b c d e f:Int):bl aj 50 [.agg [ti a,ti b,ti c],.agg [ti d,ti e,ti f]] (ti (UP [tG a d,tG b e,tG c f])):=by
 have aC:=ok54;refine c33.ok (by simp) (aO ?_);simp;apply aa.ag aC fw [2,3];simp[d33r0];apply aa.ag aC fw [4];simp[d33r1];refine⟨⟨[tG a d,tG b e,tG c f],rfl,by simp⟩, ?_⟩;apply aa.ret;simp[d33res];rfl
def GV(s aL:Int)(a:cw):Prop:=¬(a.f<0\/a.f>a.t\/a.t>=s\/a.term<0\/a.term>=aL\/a.aH<0\/a.aH>=1099511627776\/(a.f=a.t/\a.aH=0))
instance(s aL:Int)(a:cw):Decidable (GV s aL a):=by unfold GV;infer_instance
def before(a b:cw):Prop:=a.f<b.f\/(a.f=b.f/\(a.t<b.t\/(a.t=b.t/\a.term<b.term)))
instance(a b:cw):Decidable (before a b):=by unfold before;infer_instance
def QX(f:bO)(i:Nat):Prop:=0<=f.getD i default/\f.getD i default<=1099511627776
def PC(l:aV)(aL:Int)(i:Nat):Prop:=GV l.bn aL (l.bE.getD i default)/\(i=0\/before (l.bE.getD (i-1) default) (l.bE.getD i default))
def Ec(l:aV)(aL:Int):Prop:=(1<=l.bn/\(l.uH.length:Int)=l.bn)/\(∀i,i<l.uH.length->QX l.uH i)/\∀i,i<l.bE.length->PC l aL i
instance(f:bO)(i:Nat):Decidable (QX f i):=by unfold QX;infer_instance
instance(l:aV)(aL:Int)(i:Nat):Decidable (PC l aL i):=by unfold PC;infer_instance
instance(l:aV)(aL:Int):Decidable (Ec l aL):=by unfold Ec;infer_instance
def AP{n:Int}(h:0<=n/\n<18446744073709551616):IntKind.u64.wrap n=n:=by
 unfold IntKind.wrap;simp[IntKind.bits,IntKind.signed];omega
def Pz{n:Nat}(h:n<4294967296):n % 2^IntKind.u64.bits&&&4294967295 % 2^IntKind.u64.bits=n:=by
 have e:IntKind.u64.bits=64:=rfl;rw[e,ZcH (show n<2^64 by omega),show 4294967295 % 2^64=2^32-1 by decide,Nat.and_two_pow_sub_one_eq_mod,ZcH (by omega)]
def t60(x y:Nat)(hx:x<4294967296)(hy:y<4294967296):bl aj 107 [.int .u64 x,.int .u64 y] (.eo [.int .u64 0,.int .u64 ((x*y:Nat):Int)]):=by
 have aC:=okE;refine c60.ok (by simp) (aO ?_);simp;apply aa.ag aC fw [0,1];simp[Lh];obtain⟨p,hp⟩:=bb (x*y);have hpb:p<18446744073709551616:=by
  rw[<-hp]
  calc x*y<=4294967295*4294967295:=ZcU (by omega) (by omega)
   _<_:=by decide
 have hpi:(x:Int)*y=p:=by rw[<-hp];simp
 have e1:=AP (n:=x) (by omega);have e2:=AP (n:=y) (by omega);have e3:=AP (n:=p) (by omega);have b:IntKind.u64.bits=64:=rfl;have e0:IntKind.u64.wrap 0=0:=rfl;have d1:(x:Int)/4294967296=0:=by omega
 have d2:(y:Int)/4294967296=0:=by omega
 have d3:(p:Int)/4294967296<4294967296:=by omega
 obtain⟨q,hq⟩:∃q:Nat,(p:Int)/4294967296=q:=⟨p/4294967296,by omega⟩;have hqb:q<4294967296:=by omega
 have e4:=AP (n:=q) (by omega);have d4:(q:Int)/4294967296=0:=by omega
 rw[hpi];apply aa.ag aC fw [0,1,6];simp[BM,Pz hx,e1];apply aa.ag aC fw [0,1,6,7];simp[Li,b,d1];apply aa.ag aC fw [0,1,6,7,8];simp[Lj,Pz hy,e2];apply aa.ag aC fw [0,1,6,7,8,9];simp[Re,b,d2];apply aa.ag aC fw [0,1,6,7,8,9,10];simp[Rf,hpi,e3];apply aa.ag aC fw [0,1,6,7,8,9,10,11];simp[d60r6,e0,b,hq,e4];apply aa.ag aC fw [0,1,6,7,8,9,10,11,12];simp[d60r7,Pz hqb,e4];apply aa.ag aC fw [0,1,6,7,8,9,10,11,12,13];simp[d60r8,b,d4];apply aa.ag aC fw [0,1,6,7,8,9,10,11,12,13];simp[d60r9,e0,e4];apply aa.ag aC fw [0,1,4];simp[d60r10,e0,b,d4];apply aa.ag aC fw [4,5];simp[d60r11,hpi,e3];apply aa.ret;simp[wU]
abbrev spec60:DM.Spec:=cT (λts=>∃x y:Nat,ts=[.int .u64 x,.int .u64 y]/\x<4294967296/\y<4294967296) (fun|[.int _ x,.int _ y]=>.eo [.int .u64 0,.int .u64 (x*y)]|_=>.bool false) false
def ok60:ay aj (bu [(107,spec60)]):=by
 refine ay.cons ay.nil ?_;rintro ts ⟨x,y,rfl,h1,h2⟩;exact⟨by simpa using t60 x y h1 h2,λh=>by cases h⟩
def t46(x y:Nat)(hx:x<4294967296)(hy:y<4294967296):bl aj 73 [.int .u64 x,.int .u64 y] (.eo [.int .u64 0,.int .u64 ((x*y:Nat):Int)]):=by
 have aC:=ok60;refine c46.ok (by simp) (aO ?_);simp;apply aa.ag aC fw [0,1];simp[d46r0];apply aa.seq;refine aa.cond rfl (λh=>by cases h) (λh=>?_);apply aa.skip;simp;apply aa.ag aC fw [8,9];simp[d46r3];refine⟨⟨x,y,⟨rfl,rfl⟩,hx,hy⟩, ?_⟩;apply aa.ag aC fw [4,5];simp[d46r4];apply aa.ret;simp[d46res]
abbrev spec46:DM.Spec:=cT (λts=>∃x y:Nat,ts=[.int .u64 x,.int .u64 y]/\x<4294967296/\y<4294967296) (fun|[.int _ x,.int _ y]=>.eo [.int .u64 0,.int .u64 (x*y)]|_=>.bool false) false
def ok46:ay aj (bu [(73,spec46)]):=by
 refine ay.cons ay.nil ?_;rintro ts ⟨x,y,rfl,h1,h2⟩;exact⟨by simpa using t46 x y h1 h2,λh=>by cases h⟩
def t29(v:Int)(n:Nat)(h1:1<=n)(hn:n<=10000000):oW aj 46 [.sl (aG [v]),ti n] 3 1 (aG (List.replicate n v)):=by
 have aC:=ok46;refine c29.okF (by simp) (aO ?_);simp;apply aa.ag aC fw [0,1];simp[d29r0];apply aa.seq;apply aa.ag aC fw [0,1,10];simp[d29r1];refine aa.cond rfl (λh=>by simp at h;omega) (λh=>?_);apply aa.skip;simp;have e1:=AP (n:=1) (by omega);have e2:=AP (n:=n) (by omega);apply aa.ag aC fw [0,1,5,6];simp[d29r3,e1,e2];refine⟨⟨1,n,⟨rfl,rfl⟩,by omega,by omega⟩, ?_⟩;apply aa.seq;apply aa.ag aC fw [0,6,26];simp[d29r4];refine aa.cond rfl (λh=>by simp at h;omega) (λh=>?_);apply aa.skip;simp;apply aa.ag aC fw [0,7];have w1:IntKind.i64.wrap (n:Int)=n:=aF (by omega);simp[d29r6,w1];refine⟨by simp[dK];omega, ?_⟩;apply aa.ag aC fw [7,8];have hrp:∀(k:Nat),aG [v]=[[ti v]]:=λ_=>rfl;obtain⟨n',rfl⟩:∃n',n=n'+1:=⟨n-1,by omega⟩;simp[d29r7,aG,ZaY];apply aa.seq;apply aa.block;refine aa.loop (λy:Nat=>⟨DM.look [(7,.bA 1227 0),(8,.v (ti (y+1:Nat)))],cM [(1227,.arr 0 3 1 (List.replicate (y+1) [ti v]++List.replicate (n'-y) [ti 0]))],3000,1000,[]⟩)
  (λy=>y<=n') (λy=>n'-y) 0 (Le.bi ?_ ?_ ?_ ?_) (by simp) (λy hy=>?_)
 iterate 4(·simp)
 apply aa.seq;apply aa.ag aC fw [7,8,37];simp[d29r8];refine aa.cond rfl (λh=>?_) (λh=>?_)
 ·simp at h;apply aa.skip;simp;apply aa.block;apply aa.fK aC fw [7,8];have q1:((y:Int)+1<=(y:Int)+1+((n'-y:Nat):Int))=True:=by simp;omega
  simp[d29r9,q1];obtain⟨k,hk⟩:=bb (min (n'-y) (y+1));have k1:min ((↑y+1+((n'-y:Nat):Int)).toNat-(y+1)) (y+1)=k:=by omega
  have k2:min (y+1) ((↑y+1+((n'-y:Nat):Int)).toNat-(y+1))=k:=by omega
  rw[k1,k2];have e:List.drop (y+1+k) (List.replicate (y+1) [ti v]++List.replicate (n'-y) [ti 0])=List.replicate (n'-(y+k)) [ti 0]:=by
   rw[List.drop_append];simp;omega
  rw[e];refine⟨by omega,y+k,Le.bi ?_ ?_ ?_ ?_,by omega,by omega⟩
  ·simp
  ·simp
  ·simp;omega
  ·simp;rw[aF (by omega)];omega
 ·simp at h;have:y=n':=by omega
  subst this;apply aa.exit;simp;apply aa.ag aC fw [4];simp[d29r10];apply aa.ret;exact .inr ⟨1227,0,by simp,by simp[ZaY]⟩
def pre29(ts:aK):Prop:=∃(v:Int) (n:Nat),ts=[.sl (aG [v]),ti n]/\1<=n/\n<=10000000
def fn29:aK->List (aK)
 |[.sl [[v]],.int _ n]=>List.replicate n.toNat [v]
 |_=>[]
def zS(a b:Int):Int:=if 1099511627776<=a\/1099511627776<=b\/1099511627776<=a+b then 1099511627776 else a+b
end Go.Proofs
