/- A part of the proof: an evaluator of the program's code over plain data, proved sound, and walks of the program's functions by it. No conditions beyond those in the theorems. -/
import Derived.Test.YtbgbnmghhmfihaaLawFp13
import Derived.Test.YtbgbnmghhmfihaaLawFp16
import Derived.Test.YtbgbnmghhmfihaaLawFp18
set_option linter.unusedVariables false
set_option linter.unusedSimpArgs false
set_option linter.constructorNameAsVariable false
set_option linter.unusedSectionVars false
set_option linter.defProp false
set_option linter.unusedVariables false
set_option linter.unusedSimpArgs false
set_option maxRecDepth 40000
set_option maxHeartbeats 4000000
open Go.RowKit
namespace Go.Fs.Se
open Cel (cel unc)
open Dat (enc dec)
open Arg (ea da)
/-! loop.example/smithy/impl.prim -/
theorem n174_eq (a0 : ByteArray) (a1 : (List MeanVal)) : n174 a0 a1 = (getI a1 0).bind fun y0 => if a0 = ByteArray.mk #[110, 111, 116] then (n170 (decide (y0.num = 0))).bind fun y1 => some (y1, 0) else if a0 = ByteArray.mk #[97, 110, 100] then bindB (if decide (y0.num = 0) = false then (getI a1 1).bind fun y2 => some !decide (y2.num = 0) else some false) fun y3 => (n170 y3).bind fun y4 => some (y4, 0) else if a0 = ByteArray.mk #[111, 114] then bindB (if decide (y0.num = 0) = false then some true else (getI a1 1).bind fun y5 => some !decide (y5.num = 0)) fun y6 => (n170 y6).bind fun y7 => some (y7, 0) else if a0 = ByteArray.mk #[108, 101, 110] then (n169 (↑y0.row.length : Int)).bind fun y8 => some (y8, 0) else if a0 = ByteArray.mk #[112, 114, 105, 110, 116] then (n169 y0.num).bind fun y9 => some (y9, 0) else if a0 = ByteArray.mk #[106, 111, 105, 110] then none else if a0 = ByteArray.mk #[97, 116] then (getI a1 1).bind fun y10 => (n59 y10.num (↑y0.row.length : Int)).bind fun y11 => if y11 = false then some (MeanVal.mk 0 0 [], 2) else if a0 = ByteArray.mk #[97, 116] then (getI y0.row y10.num).bind fun y12 => (n169 y12).bind fun y13 => some (y13, 0) else (n95 y0.row).bind fun y14 => (getI a1 2).bind fun y15 => (getI y14 y10.num).bind fun y16 => y14[y10.num.toNat]?.bind fun y19 => (uncL unc ((List.map cel y14).set y10.num.toNat [D.i IntKind.i64 y15.num])).bind (compO (compO (fun y20 => some (y20, ())) (callN (fun y21 => n176 y21.fst) (ownE (St.mk 119 (upd (upd (upd (upd (upd (upd (upd (upd (upd (upd (upd (upd (upd (upd (upd (upd (upd (upd (upd (upd (upd (upd (upd (upd (upd (upd (upd (upd (upd (upd (upd (upd (upd (upd (upd (upd (upd (upd (upd (upd (upd (upd (upd (upd (upd (upd (upd (upd (upd (upd (upd (upd (upd (upd (upd (upd (upd (upd (upd (upd (fun y22 => AV.x) 1 (AV.d (D.l 3 (List.map cel a1)))) 0 (AV.d (D.s a0))) 4 (AV.a 4 0)) 5 (AV.d (D.i IntKind.i64 0))) 10 (AV.d (D.l 3 (List.map cel a1)))) 11 (AV.q [D.i IntKind.i64 y0.kind, D.i IntKind.i64 y0.num, D.l 1 (List.map cel y0.row)] 0)) 12 (AV.g [AV.d (D.i IntKind.i64 y0.kind), AV.d (D.i IntKind.i64 y0.num), AV.d (D.l 1 (List.map cel y0.row))])) 6 (AV.a 6 0)) 13 (AV.d (D.s a0))) 15 (AV.d (D.b (decide (a0 = ByteArray.mk #[110, 111, 116]))))) 14 (AV.d (D.b (decide (a0 = ByteArray.mk #[110, 111, 116]))))) 14 (AV.d (D.b false))) 21 (AV.d (D.b (decide (a0 = ByteArray.mk #[97, 110, 100]))))) 20 (AV.d (D.b (decide (a0 = ByteArray.mk #[97, 110, 100]))))) 20 (AV.d (D.b false))) 34 (AV.d (D.b (decide (a0 = ByteArray.mk #[111, 114]))))) 33 (AV.d (D.b (decide (a0 = ByteArray.mk #[111, 114]))))) 33 (AV.d (D.b false))) 47 (AV.d (D.b (decide (a0 = ByteArray.mk #[108, 101, 110]))))) 46 (AV.d (D.b (decide (a0 = ByteArray.mk #[108, 101, 110]))))) 46 (AV.d (D.b false))) 53 (AV.d (D.b (decide (a0 = ByteArray.mk #[112, 114, 105, 110, 116]))))) 52 (AV.d (D.b (decide (a0 = ByteArray.mk #[112, 114, 105, 110, 116]))))) 52 (AV.d (D.b false))) 58 (AV.d (D.b (decide (a0 = ByteArray.mk #[106, 111, 105, 110]))))) 57 (AV.d (D.b (decide (a0 = ByteArray.mk #[106, 111, 105, 110]))))) 57 (AV.d (D.b false))) 74 (AV.d (D.b (decide (a0 = ByteArray.mk #[97, 116]))))) 73 (AV.d (D.b (decide (a0 = ByteArray.mk #[97, 116]))))) 73 (AV.d (D.b true))) 73 (AV.d (D.b true))) 76 (AV.d (D.l 3 (List.map cel a1)))) 77 (AV.q [D.i IntKind.i64 y10.kind, D.i IntKind.i64 y10.num, D.l 1 (List.map cel y10.row)] 0)) 78 (AV.q [D.i IntKind.i64 y10.kind, D.i IntKind.i64 y10.num, D.l 1 (List.map cel y10.row)] 1)) 79 (AV.d (D.i IntKind.i64 y10.num))) 8 (AV.d (D.i IntKind.i64 y10.num))) 81 (AV.d (D.i IntKind.i64 y10.num))) 82 (AV.a 6 2)) 83 (AV.d (D.l 1 (List.map cel y0.row)))) 84 (AV.d (D.i IntKind.i64 (↑y0.row.length : Int)))) 85 (AV.d (D.b y11))) 86 (AV.d (D.b !y11))) 80 (AV.d (D.b !y11))) 80 (AV.d (D.b false))) 89 (AV.d (D.s a0))) 90 (AV.d (D.b (decide (a0 = ByteArray.mk #[97, 116]))))) 88 (AV.d (D.b (decide (a0 = ByteArray.mk #[97, 116]))))) 88 (AV.d (D.b false))) 97 (AV.a 6 2)) 98 (AV.d (D.l 1 (List.map cel y0.row)))) 99 (AV.r 109900)) 9 (AV.r 109900)) 100 (AV.r 109900)) 101 (AV.d (D.i IntKind.i64 y10.num))) 102 (AV.d (D.l 3 (List.map cel a1)))) 103 (AV.q [D.i IntKind.i64 y15.kind, D.i IntKind.i64 y15.num, D.l 1 (List.map cel y15.row)] 0)) 104 (AV.q [D.i IntKind.i64 y15.kind, D.i IntKind.i64 y15.num, D.l 1 (List.map cel y15.row)] 1)) 105 (AV.d (D.i IntKind.i64 y15.num))) 106 (AV.e 109900 y10.num.toNat 0)) 107 (AV.r 109900)) (upd (upd (upd (upd (upd (fun y23 => none) 4 (some (Ob.box [AV.d (D.i IntKind.i64 0), AV.d (D.i IntKind.i64 0), AV.z 1]))) 6 (some (Ob.box [AV.d (D.i IntKind.i64 0), AV.d (D.i IntKind.i64 0), AV.z 1]))) 6 (some (Ob.box [AV.d (D.i IntKind.i64 y0.kind), AV.d (D.i IntKind.i64 y0.num), AV.d (D.l 1 (List.map cel y0.row))]))) 109900 (some (Ob.row 1 (List.map cel y14) true false 0))) 109900 (some (Ob.row 1 ((List.map cel y14).set y10.num.toNat [D.i IntKind.i64 y15.num]) true false 1)))) (some 108)))) (opsK (envOf M AV.x) [Oper.mk (some 107) (Op.move (Operand.tmp 9)) 31 "l6_mean.go:129" #[] none, Oper.mk (some 108) (Op.call (Call.mk (Callee.value (Operand.func 176)) #[Operand.tmp 107] #[31])) 130 "l6_mean.go:129" #[Edge.mk 0 Ground.data] none, Oper.mk none (Op.store 130 (Operand.tmp 4) (Operand.tmp 108)) 0 "l6_mean.go:129" #[Edge.mk 1 Ground.data, Edge.mk 1 Ground.chain, Edge.mk 0 Ground.phase, Edge.mk 1 Ground.phase] none, Oper.mk (some 5) (Op.assign (Operand.const (Value.int IntKind.i64 0))) 3 "l6_mean.go:129" #[Edge.mk 2 Ground.chain, Edge.mk 0 Ground.phase, Edge.mk 1 Ground.phase, Edge.mk 2 Ground.phase] none] [Oper.mk none (Op.store 130 (Operand.tmp 4) (Operand.tmp 108)) 0 "l6_mean.go:129" #[Edge.mk 1 Ground.data, Edge.mk 1 Ground.chain, Edge.mk 0 Ground.phase, Edge.mk 1 Ground.phase] none, Oper.mk (some 5) (Op.assign (Operand.const (Value.int IntKind.i64 0))) 3 "l6_mean.go:129" #[Edge.mk 2 Ground.chain, Edge.mk 0 Ground.phase, Edge.mk 1 Ground.phase, Edge.mk 2 Ground.phase] none] (regK (thenK (envOf M AV.x) (lvT 174) Code.ret (blkK 0 (thenK (envOf M AV.x) (lvT 174) ((Code.region 28 #[Oper.mk (some 109) (Op.move (Operand.tmp 0)) 9 "l6_mean.go:131" #[] none, Oper.mk (some 110) (Op.fieldAddr 130 (Operand.tmp 6) 1) 0 "l6_mean.go:131" #[] none, Oper.mk (some 111) (Op.load 3 (Operand.tmp 110)) 3 "l6_mean.go:131" #[Edge.mk 1 Ground.data] none, Oper.mk (some 112) (Op.move (Operand.tmp 1)) 158 "l6_mean.go:131" #[] none, Oper.mk (some 113) (Op.indexAddr 158 (Operand.tmp 112) (Operand.const (Value.int IntKind.i64 1))) 0 "l6_mean.go:131" #[Edge.mk 3 Ground.data] none, Oper.mk (some 114) (Op.fieldAddr 130 (Operand.tmp 113) 1) 0 "l6_mean.go:131" #[Edge.mk 4 Ground.data] none, Oper.mk (some 115) (Op.load 3 (Operand.tmp 114)) 3 "l6_mean.go:131" #[Edge.mk 5 Ground.data] none, Oper.mk (some 116) (Op.call (Call.mk (Callee.value (Operand.func 177)) #[Operand.tmp 109, Operand.tmp 111, Operand.tmp 115] #[9, 3, 3])) 160 "l6_mean.go:131" #[Edge.mk 0 Ground.data, Edge.mk 2 Ground.data, Edge.mk 6 Ground.data] none, Oper.mk (some 117) (Op.extract (Operand.tmp 116) 0) 130 "l6_mean.go:131" #[Edge.mk 7 Ground.data] none, Oper.mk (some 118) (Op.extract (Operand.tmp 116) 1) 3 "l6_mean.go:131" #[Edge.mk 7 Ground.data] none, Oper.mk none (Op.store 130 (Operand.tmp 4) (Operand.tmp 117)) 0 "l6_mean.go:131" #[Edge.mk 8 Ground.data, Edge.mk 7 Ground.chain, Edge.mk 0 Ground.phase, Edge.mk 1 Ground.phase, Edge.mk 2 Ground.phase, Edge.mk 3 Ground.phase, Edge.mk 4 Ground.phase, Edge.mk 5 Ground.phase, Edge.mk 6 Ground.phase, Edge.mk 7 Ground.phase, Edge.mk 8 Ground.phase, Edge.mk 9 Ground.phase] none, Oper.mk (some 5) (Op.assign (Operand.tmp 118)) 3 "l6_mean.go:131" #[Edge.mk 9 Ground.data, Edge.mk 10 Ground.chain, Edge.mk 0 Ground.phase, Edge.mk 1 Ground.phase, Edge.mk 2 Ground.phase, Edge.mk 3 Ground.phase, Edge.mk 4 Ground.phase, Edge.mk 5 Ground.phase, Edge.mk 6 Ground.phase, Edge.mk 7 Ground.phase, Edge.mk 8 Ground.phase, Edge.mk 9 Ground.phase, Edge.mk 10 Ground.phase] none] true).seq Code.ret) (endK M 174 AV.x [ResultVar.cell 4 130, ResultVar.tmp 5]))))))) else if a0 = ByteArray.mk #[112, 117, 116] then (getI a1 1).bind fun y24 => (n59 y24.num (↑y0.row.length : Int)).bind fun y25 => if y25 = false then some (MeanVal.mk 0 0 [], 2) else if a0 = ByteArray.mk #[97, 116] then (getI y0.row y24.num).bind fun y26 => (n169 y26).bind fun y27 => some (y27, 0) else (n95 y0.row).bind fun y28 => (getI a1 2).bind fun y29 => (getI y28 y24.num).bind fun y30 => y28[y24.num.toNat]?.bind fun y33 => (uncL unc ((List.map cel y28).set y24.num.toNat [D.i IntKind.i64 y29.num])).bind (compO (compO (fun y34 => some (y34, ())) (callN (fun y35 => n176 y35.fst) (ownE (St.mk 119 (upd (upd (upd (upd (upd (upd (upd (upd (upd (upd (upd (upd (upd (upd (upd (upd (upd (upd (upd (upd (upd (upd (upd (upd (upd (upd (upd (upd (upd (upd (upd (upd (upd (upd (upd (upd (upd (upd (upd (upd (upd (upd (upd (upd (upd (upd (upd (upd (upd (upd (upd (upd (upd (upd (upd (upd (upd (upd (upd (upd (upd (upd (fun y36 => AV.x) 1 (AV.d (D.l 3 (List.map cel a1)))) 0 (AV.d (D.s a0))) 4 (AV.a 4 0)) 5 (AV.d (D.i IntKind.i64 0))) 10 (AV.d (D.l 3 (List.map cel a1)))) 11 (AV.q [D.i IntKind.i64 y0.kind, D.i IntKind.i64 y0.num, D.l 1 (List.map cel y0.row)] 0)) 12 (AV.g [AV.d (D.i IntKind.i64 y0.kind), AV.d (D.i IntKind.i64 y0.num), AV.d (D.l 1 (List.map cel y0.row))])) 6 (AV.a 6 0)) 13 (AV.d (D.s a0))) 15 (AV.d (D.b (decide (a0 = ByteArray.mk #[110, 111, 116]))))) 14 (AV.d (D.b (decide (a0 = ByteArray.mk #[110, 111, 116]))))) 14 (AV.d (D.b false))) 21 (AV.d (D.b (decide (a0 = ByteArray.mk #[97, 110, 100]))))) 20 (AV.d (D.b (decide (a0 = ByteArray.mk #[97, 110, 100]))))) 20 (AV.d (D.b false))) 34 (AV.d (D.b (decide (a0 = ByteArray.mk #[111, 114]))))) 33 (AV.d (D.b (decide (a0 = ByteArray.mk #[111, 114]))))) 33 (AV.d (D.b false))) 47 (AV.d (D.b (decide (a0 = ByteArray.mk #[108, 101, 110]))))) 46 (AV.d (D.b (decide (a0 = ByteArray.mk #[108, 101, 110]))))) 46 (AV.d (D.b false))) 53 (AV.d (D.b (decide (a0 = ByteArray.mk #[112, 114, 105, 110, 116]))))) 52 (AV.d (D.b (decide (a0 = ByteArray.mk #[112, 114, 105, 110, 116]))))) 52 (AV.d (D.b false))) 58 (AV.d (D.b (decide (a0 = ByteArray.mk #[106, 111, 105, 110]))))) 57 (AV.d (D.b (decide (a0 = ByteArray.mk #[106, 111, 105, 110]))))) 57 (AV.d (D.b false))) 74 (AV.d (D.b (decide (a0 = ByteArray.mk #[97, 116]))))) 73 (AV.d (D.b (decide (a0 = ByteArray.mk #[97, 116]))))) 73 (AV.d (D.b false))) 75 (AV.d (D.b (decide (a0 = ByteArray.mk #[112, 117, 116]))))) 73 (AV.d (D.b (decide (a0 = ByteArray.mk #[112, 117, 116]))))) 73 (AV.d (D.b true))) 76 (AV.d (D.l 3 (List.map cel a1)))) 77 (AV.q [D.i IntKind.i64 y24.kind, D.i IntKind.i64 y24.num, D.l 1 (List.map cel y24.row)] 0)) 78 (AV.q [D.i IntKind.i64 y24.kind, D.i IntKind.i64 y24.num, D.l 1 (List.map cel y24.row)] 1)) 79 (AV.d (D.i IntKind.i64 y24.num))) 8 (AV.d (D.i IntKind.i64 y24.num))) 81 (AV.d (D.i IntKind.i64 y24.num))) 82 (AV.a 6 2)) 83 (AV.d (D.l 1 (List.map cel y0.row)))) 84 (AV.d (D.i IntKind.i64 (↑y0.row.length : Int)))) 85 (AV.d (D.b y25))) 86 (AV.d (D.b !y25))) 80 (AV.d (D.b !y25))) 80 (AV.d (D.b false))) 89 (AV.d (D.s a0))) 90 (AV.d (D.b (decide (a0 = ByteArray.mk #[97, 116]))))) 88 (AV.d (D.b (decide (a0 = ByteArray.mk #[97, 116]))))) 88 (AV.d (D.b false))) 97 (AV.a 6 2)) 98 (AV.d (D.l 1 (List.map cel y0.row)))) 99 (AV.r 109900)) 9 (AV.r 109900)) 100 (AV.r 109900)) 101 (AV.d (D.i IntKind.i64 y24.num))) 102 (AV.d (D.l 3 (List.map cel a1)))) 103 (AV.q [D.i IntKind.i64 y29.kind, D.i IntKind.i64 y29.num, D.l 1 (List.map cel y29.row)] 0)) 104 (AV.q [D.i IntKind.i64 y29.kind, D.i IntKind.i64 y29.num, D.l 1 (List.map cel y29.row)] 1)) 105 (AV.d (D.i IntKind.i64 y29.num))) 106 (AV.e 109900 y24.num.toNat 0)) 107 (AV.r 109900)) (upd (upd (upd (upd (upd (fun y37 => none) 4 (some (Ob.box [AV.d (D.i IntKind.i64 0), AV.d (D.i IntKind.i64 0), AV.z 1]))) 6 (some (Ob.box [AV.d (D.i IntKind.i64 0), AV.d (D.i IntKind.i64 0), AV.z 1]))) 6 (some (Ob.box [AV.d (D.i IntKind.i64 y0.kind), AV.d (D.i IntKind.i64 y0.num), AV.d (D.l 1 (List.map cel y0.row))]))) 109900 (some (Ob.row 1 (List.map cel y28) true false 0))) 109900 (some (Ob.row 1 ((List.map cel y28).set y24.num.toNat [D.i IntKind.i64 y29.num]) true false 1)))) (some 108)))) (opsK (envOf M AV.x) [Oper.mk (some 107) (Op.move (Operand.tmp 9)) 31 "l6_mean.go:129" #[] none, Oper.mk (some 108) (Op.call (Call.mk (Callee.value (Operand.func 176)) #[Operand.tmp 107] #[31])) 130 "l6_mean.go:129" #[Edge.mk 0 Ground.data] none, Oper.mk none (Op.store 130 (Operand.tmp 4) (Operand.tmp 108)) 0 "l6_mean.go:129" #[Edge.mk 1 Ground.data, Edge.mk 1 Ground.chain, Edge.mk 0 Ground.phase, Edge.mk 1 Ground.phase] none, Oper.mk (some 5) (Op.assign (Operand.const (Value.int IntKind.i64 0))) 3 "l6_mean.go:129" #[Edge.mk 2 Ground.chain, Edge.mk 0 Ground.phase, Edge.mk 1 Ground.phase, Edge.mk 2 Ground.phase] none] [Oper.mk none (Op.store 130 (Operand.tmp 4) (Operand.tmp 108)) 0 "l6_mean.go:129" #[Edge.mk 1 Ground.data, Edge.mk 1 Ground.chain, Edge.mk 0 Ground.phase, Edge.mk 1 Ground.phase] none, Oper.mk (some 5) (Op.assign (Operand.const (Value.int IntKind.i64 0))) 3 "l6_mean.go:129" #[Edge.mk 2 Ground.chain, Edge.mk 0 Ground.phase, Edge.mk 1 Ground.phase, Edge.mk 2 Ground.phase] none] (regK (thenK (envOf M AV.x) (lvT 174) Code.ret (blkK 0 (thenK (envOf M AV.x) (lvT 174) ((Code.region 28 #[Oper.mk (some 109) (Op.move (Operand.tmp 0)) 9 "l6_mean.go:131" #[] none, Oper.mk (some 110) (Op.fieldAddr 130 (Operand.tmp 6) 1) 0 "l6_mean.go:131" #[] none, Oper.mk (some 111) (Op.load 3 (Operand.tmp 110)) 3 "l6_mean.go:131" #[Edge.mk 1 Ground.data] none, Oper.mk (some 112) (Op.move (Operand.tmp 1)) 158 "l6_mean.go:131" #[] none, Oper.mk (some 113) (Op.indexAddr 158 (Operand.tmp 112) (Operand.const (Value.int IntKind.i64 1))) 0 "l6_mean.go:131" #[Edge.mk 3 Ground.data] none, Oper.mk (some 114) (Op.fieldAddr 130 (Operand.tmp 113) 1) 0 "l6_mean.go:131" #[Edge.mk 4 Ground.data] none, Oper.mk (some 115) (Op.load 3 (Operand.tmp 114)) 3 "l6_mean.go:131" #[Edge.mk 5 Ground.data] none, Oper.mk (some 116) (Op.call (Call.mk (Callee.value (Operand.func 177)) #[Operand.tmp 109, Operand.tmp 111, Operand.tmp 115] #[9, 3, 3])) 160 "l6_mean.go:131" #[Edge.mk 0 Ground.data, Edge.mk 2 Ground.data, Edge.mk 6 Ground.data] none, Oper.mk (some 117) (Op.extract (Operand.tmp 116) 0) 130 "l6_mean.go:131" #[Edge.mk 7 Ground.data] none, Oper.mk (some 118) (Op.extract (Operand.tmp 116) 1) 3 "l6_mean.go:131" #[Edge.mk 7 Ground.data] none, Oper.mk none (Op.store 130 (Operand.tmp 4) (Operand.tmp 117)) 0 "l6_mean.go:131" #[Edge.mk 8 Ground.data, Edge.mk 7 Ground.chain, Edge.mk 0 Ground.phase, Edge.mk 1 Ground.phase, Edge.mk 2 Ground.phase, Edge.mk 3 Ground.phase, Edge.mk 4 Ground.phase, Edge.mk 5 Ground.phase, Edge.mk 6 Ground.phase, Edge.mk 7 Ground.phase, Edge.mk 8 Ground.phase, Edge.mk 9 Ground.phase] none, Oper.mk (some 5) (Op.assign (Operand.tmp 118)) 3 "l6_mean.go:131" #[Edge.mk 9 Ground.data, Edge.mk 10 Ground.chain, Edge.mk 0 Ground.phase, Edge.mk 1 Ground.phase, Edge.mk 2 Ground.phase, Edge.mk 3 Ground.phase, Edge.mk 4 Ground.phase, Edge.mk 5 Ground.phase, Edge.mk 6 Ground.phase, Edge.mk 7 Ground.phase, Edge.mk 8 Ground.phase, Edge.mk 9 Ground.phase, Edge.mk 10 Ground.phase] none] true).seq Code.ret) (endK M 174 AV.x [ResultVar.cell 4 130, ResultVar.tmp 5]))))))) else (getI a1 1).bind fun y38 => (n177 a0 y0.num y38.num).bind fun y39 => some (y39.fst, y39.snd) := by
  rw [n174, fnO_code h174 rfl Go.Proofs.Try.func174 (c := cd174) rfl (a0, a1, ()) rfl]
  simp (maxSteps := 60000000) (disch := first | (intros; rename_i h; cases h; done) | decide +kernel) only [evS, seS, List.map_replicate, Nat.reduceDiv, Nat.reduceMod, Nat.reduceEqDiff, reduceCtorEq, ↓reduceIte, Nat.reduceLT, Nat.reduceAdd, Nat.reduceMul, Nat.reduceSub, Nat.reduceLeDiff, Nat.reduceBEq, Int.reduceEq, Int.reduceNeg, Int.reduceToNat, Int.reduceLE, Int.reduceLT, cd174, Go.Proofs.Try.f174, h174.r, m174, lv_pl, pl174, c59, c95, c169, c170, c175, c176, c177]
  all_goals try simp only [bindN_eq]
end Go.Fs.Se

set_option linter.unusedVariables false
set_option linter.unusedSimpArgs false
set_option maxRecDepth 40000
set_option maxHeartbeats 4000000
open Go.RowKit
namespace Go.Fs.Se
open Cel (cel unc)
open Dat (enc dec)
open Arg (ea da)
/-! loop.example/smithy/impl.arith -/
theorem n177_eq (a0 : ByteArray) (a1 : Int) (a2 : Int) : n177 a0 a1 a2 = if a0 = ByteArray.mk #[43] then (n169 (IntKind.i64.wrap (a1 + a2))).bind fun y0 => some (y0, 0) else if a0 = ByteArray.mk #[45] then (n169 (IntKind.i64.wrap (a1 - a2))).bind fun y1 => some (y1, 0) else if a0 = ByteArray.mk #[42] then (n169 (IntKind.i64.wrap (a1 * a2))).bind fun y2 => some (y2, 0) else if a0 = ByteArray.mk #[60] then (n170 (decide (a1 < a2))).bind fun y3 => some (y3, 0) else if a0 = ByteArray.mk #[60, 61] then (n170 (decide (a1 ≤ a2))).bind fun y4 => some (y4, 0) else if a0 = ByteArray.mk #[61] then (n170 (decide (a1 = a2))).bind fun y5 => some (y5, 0) else if a2 = 0 then some (MeanVal.mk 0 0 [], 1) else if a0 = ByteArray.mk #[47] then if a2 = 0 then none else (n169 (IntKind.i64.wrap (a1.tdiv a2))).bind fun y6 => some (y6, 0) else if a2 = 0 then none else (n169 (a1.tmod a2)).bind fun y7 => some (y7, 0) := by
  rw [n177, fnO_code h177 rfl Go.Proofs.Try.func177 (c := cd177) rfl (a0, a1, a2, ()) rfl]
  simp (maxSteps := 60000000) (disch := first | (intros; rename_i h; cases h; done) | decide +kernel) only [evS, seS, List.map_replicate, Nat.reduceDiv, Nat.reduceMod, Nat.reduceEqDiff, reduceCtorEq, ↓reduceIte, Nat.reduceLT, Nat.reduceAdd, Nat.reduceMul, Nat.reduceSub, Nat.reduceLeDiff, Nat.reduceBEq, Int.reduceEq, Int.reduceNeg, Int.reduceToNat, Int.reduceLE, Int.reduceLT, cd177, Go.Proofs.Try.f177, h177.r, m177, lv_pl, pl177, c169, c170]
  all_goals try simp only [bindN_eq]
end Go.Fs.Se

set_option linter.unusedVariables false
set_option maxRecDepth 4000
namespace Go.Fs.Se
open Cel (cel unc)
open Dat (enc dec)
open Arg (ea da)
/-! ### values of written numbers and truths -/
theorem known_eq (e : TreeExpr) : n161 e = n106 e := by
  rw [n161_eq, n106_eq]
  simp only [n169_eq, n140_eq, n170_eq, n141_eq]
/-- A value that can be written. -/
def ValP (v : MeanVal) : Prop := v.row = [] ∧ ((v.kind = 1 ∧ -9223372036854775808 ≤ v.num ∧ v.num < 9223372036854775808) ∨ (v.kind = 2 ∧ (v.num = 0 ∨ v.num = 1)))
theorem truth_ok (b : Bool) : ∃ v, n141 b = some v ∧ n170 b = some v ∧ ValP v ∧ v.kind = 2 := by
  rw [n141_eq, n170_eq]
  cases b with
  | true => exact ⟨⟨2, 1, []⟩, rfl, rfl, ⟨rfl, .inr ⟨rfl, .inr rfl⟩⟩, rfl⟩
  | false => exact ⟨⟨2, 0, []⟩, rfl, rfl, ⟨rfl, .inr ⟨rfl, .inl rfl⟩⟩, rfl⟩
theorem wrap_in (n : Int) : -9223372036854775808 ≤ IntKind.i64.wrap n ∧ IntKind.i64.wrap n < 9223372036854775808 := by
  have e : (2 ^ IntKind.i64.bits : Int) = 18446744073709551616 := by decide
  have e2 : (2 ^ (IntKind.i64.bits - 1) : Int) = 9223372036854775808 := by decide
  have e3 : IntKind.i64.signed = true := rfl
  unfold IntKind.wrap
  simp only [e, e2, e3, Bool.true_and]
  split <;> rename_i h <;> simp only [decide_eq_true_eq] at h <;> omega
theorem num_ok' (n : Int) : ∃ v, n140 (IntKind.i64.wrap n) = some v ∧ n169 (IntKind.i64.wrap n) = some v ∧ ValP v := by
  rw [n140_eq, n169_eq]
  exact ⟨_, rfl, rfl, rfl, .inl ⟨rfl, wrap_in n⟩⟩
theorem kinds_ok (vs : List MeanVal) (h : vs.length ≤ 1048576) : n173 vs = some (vs.map (·.kind)) := by
  have loop : ∀ (ys : List MeanVal) (i : Nat) (r : List Int), vs.drop i = ys → r.length = i → i ≤ vs.length → l173_3 vs (i : Int) r = some (r ++ ys.map (·.kind)) := by
    intro ys
    induction ys with
    | nil =>
      intro i r hd hr hi
      have := dropEnd hd
      rw [l173_3_eq, if_neg (by omega)]; simp
    | cons y ys ih =>
      intro i r hd hr hi
      obtain ⟨d1, d2, d3, d4⟩ := dropAt hd
      rw [l173_3_eq, if_pos (by omega), d2, Option.bind_some, if_pos ⟨by omega, by omega⟩, wrN (by omega), ih (i + 1) _ d4 (by simp [hr]) (by omega)]
      simp
  rw [n173_eq]
  simpa using loop vs 0 [] rfl rfl (by omega)
theorem same_ok (a b : List Int) (h : a.length ≤ 1048576) : n172 a b = some (decide (a = b)) := by
  rw [n172_eq]
  by_cases hl : (a.length : Int) = (b.length : Int)
  · rw [if_neg (by simp [hl])]
    have loop : ∀ (ys zs : List Int) (i : Nat), a.drop i = ys → b.drop i = zs → i ≤ a.length → l172_4 a b (i : Int) = some (decide (ys = zs)) := by
      intro ys
      induction ys with
      | nil =>
        intro zs i hd hz hi
        have := dropEnd hd
        rw [l172_4_eq, if_neg (by omega)]
        have : zs = [] := by rw [← hz]; exact List.drop_eq_nil_of_le (by omega)
        subst this
        rfl
      | cons y ys ih =>
        intro zs i hd hz hi
        obtain ⟨d1, d2, d3, d4⟩ := dropAt hd
        cases zs with
        | nil => have := dropEnd hz; omega
        | cons z zs =>
          obtain ⟨f1, f2, f3, f4⟩ := dropAt hz
          rw [l172_4_eq, if_pos (by omega), d2, f2, Option.bind_some, Option.bind_some, wrN (by omega), ih zs (i + 1) d4 f4 (by omega)]
          by_cases hy : y = z
          · subst hy; simp
          · simp [hy]
    have := loop a b 0 rfl rfl (by omega)
    simpa using this
  · rw [if_pos (by simp [hl])]
    have : a ≠ b := fun e => hl (by rw [e])
    simp [this]
theorem fits_ok (s : ByteArray) (vs : List MeanVal) (h : vs.length ≤ 1048576) (want : List Int) (t : Int) (hw : n156 s = some (want, t)) (ht : t ≠ 0) : n137 s vs = some (decide (vs.map (·.kind) = want)) := by
  rw [n137_eq, hw, Option.bind_some]
  by_cases hl : (want.length : Int) = (vs.length : Int)
  · rw [if_neg (by simp [hl, ht])]
    have loop : ∀ (ys : List MeanVal) (zs : List Int) (i : Nat), vs.drop i = ys → want.drop i = zs → i ≤ vs.length → l137_5 s vs (i : Int) want = some (decide (ys.map (·.kind) = zs)) := by
      intro ys
      induction ys with
      | nil =>
        intro zs i hd hz hi
        have := dropEnd hd
        rw [l137_5_eq, if_neg (by omega)]
        have : zs = [] := by rw [← hz]; exact List.drop_eq_nil_of_le (by omega)
        subst this
        rfl
      | cons y ys ih =>
        intro zs i hd hz hi
        obtain ⟨d1, d2, d3, d4⟩ := dropAt hd
        cases zs with
        | nil => have := dropEnd hz; omega
        | cons z zs =>
          obtain ⟨f1, f2, f3, f4⟩ := dropAt hz
          rw [l137_5_eq, if_pos (by omega)]
          simp only [d2, f2, f3, Int.toNat_natCast, Option.bind_some, wrN (n := i) (by omega), ih zs (i + 1) d4 f4 (by omega), List.map_cons]
          by_cases hy : y.kind = z
          · subst hy; simp
          · simp [hy]
    have := loop vs want 0 rfl rfl (by omega)
    simpa using this
  · rw [if_pos (by simp [hl])]
    have : vs.map (·.kind) ≠ want := fun e => hl (by rw [← e]; simp)
    simp [this]
theorem type_ok (s : ByteArray) (hs : s ∈ P16) : ∃ want t, n156 s = some (want, t) ∧ n171 s = some (want, t) ∧ t ≠ 0 ∧ 1 ≤ want.length := by
  refine prim_cases (C := fun s => s ∈ P16 → ∃ want t, n156 s = some (want, t) ∧ n171 s = some (want, t) ∧ t ≠ 0 ∧ 1 ≤ want.length) s ?_ ?_ ?_ ?_ ?_ ?_ ?_ ?_ ?_ ?_ ?_ ?_ ?_ ?_ ?_ ?_ (fun h h' => absurd h' h) hs
  all_goals intro _
  all_goals simp only [n156_eq, n171_eq, n103_ok]
  · exact ⟨[1, 1], 1, by decide +kernel, by decide +kernel, by decide, by decide⟩
  · exact ⟨[1, 1], 1, by decide +kernel, by decide +kernel, by decide, by decide⟩
  · exact ⟨[1, 1], 1, by decide +kernel, by decide +kernel, by decide, by decide⟩
  · exact ⟨[1, 1], 1, by decide +kernel, by decide +kernel, by decide, by decide⟩
  · exact ⟨[1, 1], 1, by decide +kernel, by decide +kernel, by decide, by decide⟩
  · exact ⟨[1, 1], 2, by decide +kernel, by decide +kernel, by decide, by decide⟩
  · exact ⟨[1, 1], 2, by decide +kernel, by decide +kernel, by decide, by decide⟩
  · exact ⟨[1, 1], 2, by decide +kernel, by decide +kernel, by decide, by decide⟩
  · exact ⟨[2], 2, by decide +kernel, by decide +kernel, by decide, by decide⟩
  · exact ⟨[3, 1], 1, by decide +kernel, by decide +kernel, by decide, by decide⟩
  · exact ⟨[3], 1, by decide +kernel, by decide +kernel, by decide, by decide⟩
  · exact ⟨[3, 1, 1], 3, by decide +kernel, by decide +kernel, by decide, by decide⟩
  · exact ⟨[3, 3], 3, by decide +kernel, by decide +kernel, by decide, by decide⟩
  · exact ⟨[1], 1, by decide +kernel, by decide +kernel, by decide, by decide⟩
  · exact ⟨[2, 2], 2, by decide +kernel, by decide +kernel, by decide, by decide⟩
  · exact ⟨[2, 2], 2, by decide +kernel, by decide +kernel, by decide, by decide⟩
/-- What the two reckonings must say. -/
def CalcP (s : ByteArray) (vs : List MeanVal) : Prop := ∃ v t, n138 s vs = some (v, t) ∧ n174 s vs = some (v, t) ∧ 0 ≤ t ∧ (t = 0 → ValP v) ∧ (t ≠ 0 → v = ⟨0, 0, []⟩)
theorem get0 {α : Type} (x : α) (xs : List α) : getI (x :: xs) 0 = some x := rfl
theorem get1 {α : Type} (x y : α) (xs : List α) : getI (x :: y :: xs) 1 = some y := rfl
theorem tmod_wrap (a b : Int) (ha : -9223372036854775808 ≤ a ∧ a < 9223372036854775808) (hb : b ≠ 0) : -9223372036854775808 ≤ a.tmod b ∧ a.tmod b < 9223372036854775808 := by
  rcases (by omega : a < 0 ∨ 0 ≤ a) with h | h
  · have e : a.tmod b = -((-a).tmod b) := by rw [Int.neg_tmod]; omega
    have h2 : 0 ≤ (-a).tmod b := Int.tmod_nonneg b (by omega)
    have h3 : (-a).tmod b ≤ -a := by
      have := Int.tmod_add_mul_tdiv (-a) b
      have h4 : 0 ≤ b * (-a).tdiv b := by
        rcases (by omega : b < 0 ∨ 0 ≤ b) with hb | hb
        · have : (-a).tdiv b ≤ 0 := Int.tdiv_nonpos_of_nonneg_of_nonpos (by omega) (by omega)
          exact Int.mul_nonneg_of_nonpos_of_nonpos (by omega) this
        · exact Int.mul_nonneg hb (Int.tdiv_nonneg (by omega) hb)
      omega
    omega
  · have h2 : 0 ≤ a.tmod b := Int.tmod_nonneg b h
    have h3 : a.tmod b ≤ a := by
      have := Int.tmod_add_mul_tdiv a b
      have h4 : 0 ≤ b * a.tdiv b := by
        rcases (by omega : b < 0 ∨ 0 ≤ b) with hb | hb
        · have : a.tdiv b ≤ 0 := Int.tdiv_nonpos_of_nonneg_of_nonpos h (by omega)
          exact Int.mul_nonneg_of_nonpos_of_nonpos (by omega) this
        · exact Int.mul_nonneg hb (Int.tdiv_nonneg h hb)
      omega
    omega
theorem calc2 (s : ByteArray) (hs : s ∈ P16) (hk : primN s ≤ 8) (a b : MeanVal) (ha : ValP a) (hb : ValP b) (ka : a.kind = 1) (kb : b.kind = 1) : CalcP s [a, b] := by
  have hra : -9223372036854775808 ≤ a.num ∧ a.num < 9223372036854775808 := by
    rcases ha.2 with h | h
    · exact h.2
    · omega
  have key : ∃ v t, n157 (primN s) a.num b.num = some (v, t) ∧ n177 s a.num b.num = some (v, t) ∧ 0 ≤ t ∧ (t = 0 → ValP v) ∧ (t ≠ 0 → v = ⟨0, 0, []⟩) := by
    have div : ∀ n : Int, b.num ≠ 0 → True := fun _ _ => trivial
    refine prim_cases (C := fun s => primN s ≤ 8 → s ∈ P16 → ∃ v t, n157 (primN s) a.num b.num = some (v, t) ∧ n177 s a.num b.num = some (v, t) ∧ 0 ≤ t ∧ (t = 0 → ValP v) ∧ (t ≠ 0 → v = ⟨0, 0, []⟩)) s ?_ ?_ ?_ ?_ ?_ ?_ ?_ ?_ ?_ ?_ ?_ ?_ ?_ ?_ ?_ ?_ (fun h _ h' => absurd h' h) hk hs
    all_goals intro hk _
    · have e : primN ⟨#[43]⟩ = 1 := by decide +kernel
      obtain ⟨v, v1, v2, v3⟩ := num_ok' (a.num + b.num)
      refine ⟨v, 0, ?_, ?_, by omega, fun _ => v3, fun h => absurd rfl h⟩
      · rw [n157_eq, e, if_pos rfl, v1]; rfl
      · rw [n177_eq, if_pos rfl, v2]; rfl
    · have e : primN ⟨#[45]⟩ = 2 := by decide +kernel
      obtain ⟨v, v1, v2, v3⟩ := num_ok' (a.num - b.num)
      refine ⟨v, 0, ?_, ?_, by omega, fun _ => v3, fun h => absurd rfl h⟩
      · rw [n157_eq, e, if_neg (by decide), if_pos rfl, v1]; rfl
      · rw [n177_eq, if_neg (by decide +kernel), if_pos rfl, v2]; rfl
    · have e : primN ⟨#[42]⟩ = 3 := by decide +kernel
      obtain ⟨v, v1, v2, v3⟩ := num_ok' (a.num * b.num)
      refine ⟨v, 0, ?_, ?_, by omega, fun _ => v3, fun h => absurd rfl h⟩
      · rw [n157_eq, e, if_neg (by decide), if_neg (by decide), if_pos rfl, v1]; rfl
      · rw [n177_eq, if_neg (by decide +kernel), if_neg (by decide +kernel), if_pos rfl, v2]; rfl
    · have e : primN ⟨#[47]⟩ = 4 := by decide +kernel
      by_cases hz : b.num = 0
      · refine ⟨⟨0, 0, []⟩, 1, ?_, ?_, by omega, fun h => absurd h (by decide), fun _ => rfl⟩
        · rw [n157_eq, e, if_neg (by decide), if_neg (by decide), if_neg (by decide), if_neg (by decide), if_neg (by decide), if_neg (by decide), if_pos hz]
        · rw [n177_eq, if_neg (by decide +kernel), if_neg (by decide +kernel), if_neg (by decide +kernel), if_neg (by decide +kernel), if_neg (by decide +kernel), if_neg (by decide +kernel), if_pos hz]
      · obtain ⟨v, v1, v2, v3⟩ := num_ok' (a.num.tdiv b.num)
        refine ⟨v, 0, ?_, ?_, by omega, fun _ => v3, fun h => absurd rfl h⟩
        · rw [n157_eq, e, if_neg (by decide), if_neg (by decide), if_neg (by decide), if_neg (by decide), if_neg (by decide), if_neg (by decide), if_neg hz, if_pos rfl, if_neg hz, v1]; rfl
        · rw [n177_eq, if_neg (by decide +kernel), if_neg (by decide +kernel), if_neg (by decide +kernel), if_neg (by decide +kernel), if_neg (by decide +kernel), if_neg (by decide +kernel), if_neg hz, if_pos rfl, if_neg hz, v2]; rfl
    · have e : primN ⟨#[37]⟩ = 5 := by decide +kernel
      by_cases hz : b.num = 0
      · refine ⟨⟨0, 0, []⟩, 1, ?_, ?_, by omega, fun h => absurd h (by decide), fun _ => rfl⟩
        · rw [n157_eq, e, if_neg (by decide), if_neg (by decide), if_neg (by decide), if_neg (by decide), if_neg (by decide), if_neg (by decide), if_pos hz]
        · rw [n177_eq, if_neg (by decide +kernel), if_neg (by decide +kernel), if_neg (by decide +kernel), if_neg (by decide +kernel), if_neg (by decide +kernel), if_neg (by decide +kernel), if_pos hz]
      · refine ⟨⟨1, a.num.tmod b.num, []⟩, 0, ?_, ?_, by omega, fun _ => ⟨rfl, .inl ⟨rfl, tmod_wrap _ _ hra hz⟩⟩, fun h => absurd rfl h⟩
        · rw [n157_eq, e, if_neg (by decide), if_neg (by decide), if_neg (by decide), if_neg (by decide), if_neg (by decide), if_neg (by decide), if_neg hz, if_neg (by decide), if_neg hz, n140_eq]; rfl
        · rw [n177_eq, if_neg (by decide +kernel), if_neg (by decide +kernel), if_neg (by decide +kernel), if_neg (by decide +kernel), if_neg (by decide +kernel), if_neg (by decide +kernel), if_neg hz, if_neg (by decide +kernel), if_neg hz, n169_eq]; rfl
    · have e : primN ⟨#[60]⟩ = 6 := by decide +kernel
      obtain ⟨v, v1, v2, v3, _⟩ := truth_ok (decide (a.num < b.num))
      refine ⟨v, 0, ?_, ?_, by omega, fun _ => v3, fun h => absurd rfl h⟩
      · rw [n157_eq, e, if_neg (by decide), if_neg (by decide), if_neg (by decide), if_pos rfl, v1]; rfl
      · rw [n177_eq, if_neg (by decide +kernel), if_neg (by decide +kernel), if_neg (by decide +kernel), if_pos rfl, v2]; rfl
    · have e : primN ⟨#[60, 61]⟩ = 7 := by decide +kernel
      obtain ⟨v, v1, v2, v3, _⟩ := truth_ok (decide (a.num ≤ b.num))
      refine ⟨v, 0, ?_, ?_, by omega, fun _ => v3, fun h => absurd rfl h⟩
      · rw [n157_eq, e, if_neg (by decide), if_neg (by decide), if_neg (by decide), if_neg (by decide), if_pos rfl, v1]; rfl
      · rw [n177_eq, if_neg (by decide +kernel), if_neg (by decide +kernel), if_neg (by decide +kernel), if_neg (by decide +kernel), if_pos rfl, v2]; rfl
    · have e : primN ⟨#[61]⟩ = 8 := by decide +kernel
      obtain ⟨v, v1, v2, v3, _⟩ := truth_ok (decide (a.num = b.num))
      refine ⟨v, 0, ?_, ?_, by omega, fun _ => v3, fun h => absurd rfl h⟩
      · rw [n157_eq, e, if_neg (by decide), if_neg (by decide), if_neg (by decide), if_neg (by decide), if_neg (by decide), if_pos rfl, v1]; rfl
      · rw [n177_eq, if_neg (by decide +kernel), if_neg (by decide +kernel), if_neg (by decide +kernel), if_neg (by decide +kernel), if_neg (by decide +kernel), if_pos rfl, v2]; rfl
    all_goals exact absurd hk (by decide +kernel)
  obtain ⟨v, t, r1, r2, r3, r4⟩ := key
  refine ⟨v, t, ?_, ?_, r3, r4⟩
  · rw [n138_eq, n103_ok, Option.bind_some, if_pos hk, get0, get1, Option.bind_some, Option.bind_some, r1]; rfl
  · have hne : s ≠ ⟨#[110, 111, 116]⟩ ∧ s ≠ ⟨#[97, 110, 100]⟩ ∧ s ≠ ⟨#[111, 114]⟩ ∧ s ≠ ⟨#[108, 101, 110]⟩ ∧ s ≠ ⟨#[112, 114, 105, 110, 116]⟩ ∧ s ≠ ⟨#[106, 111, 105, 110]⟩ ∧ s ≠ ⟨#[97, 116]⟩ ∧ s ≠ ⟨#[112, 117, 116]⟩ := by
      refine ⟨?_, ?_, ?_, ?_, ?_, ?_, ?_, ?_⟩ <;> (rintro rfl; exact absurd hk (by decide +kernel))
    obtain ⟨q1, q2, q3, q4, q5, q6, q7, q8⟩ := hne
    rw [n174_eq, get0, Option.bind_some, if_neg q1, if_neg q2, if_neg q3, if_neg q4, if_neg q5, if_neg q6, if_neg q7, if_neg q8, get1, Option.bind_some, r2]; rfl
theorem calc1 (a : MeanVal) : CalcP ⟨#[110, 111, 116]⟩ [a] := by
  have e : primN ⟨#[110, 111, 116]⟩ = 9 := by decide +kernel
  obtain ⟨v, v1, v2, v3, _⟩ := truth_ok (decide (a.num = 0))
  refine ⟨v, 0, ?_, ?_, by omega, fun _ => v3, fun h => absurd rfl h⟩
  · rw [n138_eq, n103_ok, Option.bind_some, e, if_neg (by decide), if_pos rfl, get0, Option.bind_some, v1]; rfl
  · rw [n174_eq, get0, Option.bind_some, if_pos rfl, v2]; rfl
end Go.Fs.Se

set_option linter.unusedVariables false
set_option linter.unusedSimpArgs false
set_option maxRecDepth 40000
set_option maxHeartbeats 4000000
open Go.RowKit
namespace Go.Fs.Se
open Cel (cel unc)
open Dat (enc dec)
open Arg (ea da)
/-! loop.example/smithy/spec.l18Fold -/
noncomputable def l64_3 (a0 : TreeExpr) (t4 : Int) (r2 : List TreeExpr) : Option (TreeExpr) := evRAt (envOf M .x) (lvT 64) cd64 [true, true, false, true, false] (endKM (β := TreeExpr) M 64 Go.Proofs.Try.f64.results.toList) (stL 68 [(1, AV.a 500000 0), (2, AV.a 500001 0), (3, AV.r 500002), (4, AV.d (D.i IntKind.i64 t4))] [(500000, some (Ob.box [AV.d (D.i IntKind.i64 a0.kind), AV.d (D.i IntKind.i64 a0.num), AV.d (D.s a0.name), AV.d (D.s a0.mod), AV.d (D.l 5 (List.map cel a0.kids))])), (500001, some (Ob.box [AV.d (D.i IntKind.i64 0), AV.d (D.i IntKind.i64 0), AV.d (D.s ByteArray.empty), AV.d (D.s ByteArray.empty), AV.r 500003])), (500002, some (Ob.row 5 (List.map cel r2) true false 0)), (500003, some (Ob.row 5 [] true false 0))])
theorem n64_eq (a0 : TreeExpr) : n64 a0 = l64_3 a0 0 [] := by
  rw [n64, fnM_code h64 rfl Go.Proofs.Try.func64 (c := cd64) rfl (a0, ()) rfl]
  simp (maxSteps := 60000000) (disch := first | (intros; rename_i h; cases h; done) | decide +kernel) only [evS, seS, List.map_replicate, Nat.reduceDiv, Nat.reduceMod, Nat.reduceEqDiff, reduceCtorEq, ↓reduceIte, Nat.reduceLT, Nat.reduceAdd, Nat.reduceMul, Nat.reduceSub, Nat.reduceLeDiff, Nat.reduceBEq, Int.reduceEq, Int.reduceNeg, Int.reduceToNat, Int.reduceLE, Int.reduceLT, cd64, Go.Proofs.Try.f64, h64.r, m64, lv_pl, pl64, c64, c103, c104, c105, c106, lv64_3, l64_3]
  all_goals try simp only [rnS, seS, Nat.reduceEqDiff, reduceCtorEq, ↓reduceIte, Nat.reduceAdd, Nat.reduceLeDiff, Nat.reduceBEq, Nat.reduceMul, lv64_3]
theorem l64_3_eq (a0 : TreeExpr) (t4 : Int) (r2 : List TreeExpr) : l64_3 a0 t4 r2 = if t4 < (↑a0.kids.length : Int) then (getI a0.kids t4).bind fun y0 => (n64 y0).bind fun y1 => if (r2.length + 1) * 72 ≤ 140737488355328 ∧ r2.length ≤ 140737488355327 then l64_3 a0 (IntKind.i64.wrap (t4 + 1)) (r2 ++ [y1]) else none else bindB (if a0.kind = 4 then (n103 a0.name).bind fun y2 => some (decide (14 < y2)) else some false) fun y3 => if y3 = true then n104 (TreeExpr.mk a0.kind a0.num a0.name a0.mod r2) else if a0.kind = 4 then n105 (TreeExpr.mk a0.kind a0.num a0.name a0.mod r2) else if a0.kind = 5 then (getI r2 0).bind fun y4 => r2[0]?.bind fun y7 => r2[0]?.bind fun y10 => (n106 (TreeExpr.mk y7.kind y7.num y7.name y7.mod y10.kids)).bind fun y11 => if y11.snd = true ∧ y11.fst.kind = 2 then (getI r2 (IntKind.i64.wrap (2 - y11.fst.num))).bind fun y12 => r2[(IntKind.i64.wrap (2 - y11.fst.num)).toNat]?.bind fun y15 => r2[(IntKind.i64.wrap (2 - y11.fst.num)).toNat]?.bind fun y18 => some (TreeExpr.mk y15.kind y15.num y15.name y15.mod y18.kids) else some (TreeExpr.mk a0.kind a0.num a0.name a0.mod r2) else some (TreeExpr.mk a0.kind a0.num a0.name a0.mod r2) := by
  rw [l64_3]
  simp only [evRAt, locS, cd64, Go.Proofs.Try.f64]
  rw [evR_eq]
  simp (maxSteps := 60000000) (disch := first | (intros; rename_i h; cases h; done) | decide +kernel) only [evS, seS, List.map_replicate, Nat.reduceDiv, Nat.reduceMod, Nat.reduceEqDiff, reduceCtorEq, ↓reduceIte, Nat.reduceLT, Nat.reduceAdd, Nat.reduceMul, Nat.reduceSub, Nat.reduceLeDiff, Nat.reduceBEq, Int.reduceEq, Int.reduceNeg, Int.reduceToNat, Int.reduceLE, Int.reduceLT, cd64, Go.Proofs.Try.f64, h64.r, m64, lv_pl, pl64, c64, c103, c104, c105, c106, lv64_3, l64_3]
  all_goals try simp only [rnS, seS, Nat.reduceEqDiff, reduceCtorEq, ↓reduceIte, Nat.reduceAdd, Nat.reduceLeDiff, Nat.reduceBEq, Nat.reduceMul, lv64_3]
  all_goals try simp only [bindN_eq]
end Go.Fs.Se

set_option linter.unusedVariables false
set_option linter.unusedSimpArgs false
set_option maxRecDepth 40000
set_option maxHeartbeats 4000000
open Go.RowKit
namespace Go.Fs.Se
open Cel (cel unc)
open Dat (enc dec)
open Arg (ea da)
/-! loop.example/smithy/impl.fold -/
noncomputable def l67_3 (a0 : TreeExpr) (t18 : Int) (r3 : List TreeExpr) : Option (TreeExpr) := evRAt (envOf M .x) (lvT 67) cd67 [true, true, false, true, false] (endK (β := TreeExpr) M 67 .x Go.Proofs.Try.f67.results.toList) (stL 32 [(2, AV.a 500000 0), (3, AV.a 500001 0), (16, AV.d (D.l 5 (List.map cel a0.kids))), (17, AV.d (D.i IntKind.i64 (↑a0.kids.length : Int))), (18, AV.d (D.i IntKind.i64 t18))] [(500000, some (Ob.box [AV.d (D.i IntKind.i64 0), AV.d (D.i IntKind.i64 0), AV.d (D.s ByteArray.empty), AV.d (D.s ByteArray.empty), AV.r 500002])), (500001, some (Ob.box [AV.d (D.i IntKind.i64 a0.kind), AV.d (D.i IntKind.i64 a0.num), AV.d (D.s a0.name), AV.d (D.s a0.mod), AV.r 500003])), (500002, some (Ob.row 5 [] true false 0)), (500003, some (Ob.row 5 (List.map cel r3) true false 0))])
theorem n67_eq (a0 : TreeExpr) : n67 a0 = l67_3 a0 0 [] := by
  rw [n67, fnO_code h67 rfl Go.Proofs.Try.func67 (c := cd67) rfl (a0, ()) rfl]
  simp (maxSteps := 60000000) (disch := first | (intros; rename_i h; cases h; done) | decide +kernel) only [evS, seS, List.map_replicate, Nat.reduceDiv, Nat.reduceMod, Nat.reduceEqDiff, reduceCtorEq, ↓reduceIte, Nat.reduceLT, Nat.reduceAdd, Nat.reduceMul, Nat.reduceSub, Nat.reduceLeDiff, Nat.reduceBEq, Int.reduceEq, Int.reduceNeg, Int.reduceToNat, Int.reduceLE, Int.reduceLT, cd67, Go.Proofs.Try.f67, h67.r, m67, lv_pl, pl67, c67, c109, lv67_3, l67_3]
  all_goals try simp only [rnS, seS, Nat.reduceEqDiff, reduceCtorEq, ↓reduceIte, Nat.reduceAdd, Nat.reduceLeDiff, Nat.reduceBEq, Nat.reduceMul, lv67_3]
theorem l67_3_eq (a0 : TreeExpr) (t18 : Int) (r3 : List TreeExpr) : l67_3 a0 t18 r3 = if t18 < (↑a0.kids.length : Int) then (getI a0.kids t18).bind fun y0 => (n67 y0).bind fun y1 => if (r3.length + 1) * 72 ≤ 140737488355328 ∧ r3.length ≤ 140737488355327 then l67_3 a0 (IntKind.i64.wrap (t18 + 1)) (r3 ++ [y1]) else none else n109 (TreeExpr.mk a0.kind a0.num a0.name a0.mod r3) := by
  rw [l67_3]
  simp only [evRAt, locS, cd67, Go.Proofs.Try.f67]
  rw [evR_eq]
  simp (maxSteps := 60000000) (disch := first | (intros; rename_i h; cases h; done) | decide +kernel) only [evS, seS, List.map_replicate, Nat.reduceDiv, Nat.reduceMod, Nat.reduceEqDiff, reduceCtorEq, ↓reduceIte, Nat.reduceLT, Nat.reduceAdd, Nat.reduceMul, Nat.reduceSub, Nat.reduceLeDiff, Nat.reduceBEq, Int.reduceEq, Int.reduceNeg, Int.reduceToNat, Int.reduceLE, Int.reduceLT, cd67, Go.Proofs.Try.f67, h67.r, m67, lv_pl, pl67, c67, c109, lv67_3, l67_3]
  all_goals try simp only [rnS, seS, Nat.reduceEqDiff, reduceCtorEq, ↓reduceIte, Nat.reduceAdd, Nat.reduceLeDiff, Nat.reduceBEq, Nat.reduceMul, lv67_3]
  all_goals try simp only [bindN_eq]
end Go.Fs.Se

set_option linter.unusedVariables false
set_option linter.unusedSimpArgs false
set_option maxRecDepth 40000
set_option maxHeartbeats 4000000
open Go.RowKit
namespace Go.Fs.Se
open Cel (cel unc)
open Dat (enc dec)
open Arg (ea da)
/-! loop.example/smithy/spec.l18Half -/
theorem n104_eq (a0 : TreeExpr) : n104 a0 = (getI a0.kids 0).bind fun y0 => a0.kids[0]?.bind fun y3 => a0.kids[0]?.bind fun y6 => (n106 (TreeExpr.mk y3.kind y3.num y3.name y3.mod y6.kids)).bind fun y7 => if y7.snd = false ∨ decide (y7.fst.kind = 2) = false then some a0 else if (decide (a0.name = ByteArray.mk #[97, 110, 100]) == decide (y7.fst.num = 1)) = true then (getI a0.kids 1).bind fun y8 => a0.kids[1]?.bind fun y11 => a0.kids[1]?.bind fun y14 => some (TreeExpr.mk y11.kind y11.num y11.name y11.mod y14.kids) else (getI a0.kids 0).bind fun y15 => a0.kids[0]?.bind fun y18 => a0.kids[0]?.bind fun y21 => some (TreeExpr.mk y18.kind y18.num y18.name y18.mod y21.kids) := by
  rw [n104, fnE_code h104 rfl Go.Proofs.Try.func104 (c := cd104) rfl (a0, ()) rfl]
  simp (maxSteps := 60000000) (disch := first | (intros; rename_i h; cases h; done) | decide +kernel) only [evS, seS, List.map_replicate, Nat.reduceDiv, Nat.reduceMod, Nat.reduceEqDiff, reduceCtorEq, ↓reduceIte, Nat.reduceLT, Nat.reduceAdd, Nat.reduceMul, Nat.reduceSub, Nat.reduceLeDiff, Nat.reduceBEq, Int.reduceEq, Int.reduceNeg, Int.reduceToNat, Int.reduceLE, Int.reduceLT, cd104, Go.Proofs.Try.f104, h104.r, m104, lv_pl, pl104, c106]
  all_goals try simp only [bindN_eq]
end Go.Fs.Se

set_option linter.unusedVariables false
set_option linter.unusedSimpArgs false
set_option maxRecDepth 40000
set_option maxHeartbeats 4000000
open Go.RowKit
namespace Go.Fs.Se
open Cel (cel unc)
open Dat (enc dec)
open Arg (ea da)
/-! loop.example/smithy/spec.l18Prim -/
noncomputable def l105_3 (a0 : TreeExpr) (t4 : Int) (r2 : List MeanVal) : Option (TreeExpr) := evRAt (envOf M .x) (lvT 105) cd105 [true, true, false, true, false] (endKM (β := TreeExpr) M 105 Go.Proofs.Try.f105.results.toList) (stL 66 [(1, AV.a 500000 0), (2, AV.a 500001 0), (3, AV.r 500002), (4, AV.d (D.i IntKind.i64 t4))] [(500000, some (Ob.box [AV.d (D.i IntKind.i64 a0.kind), AV.d (D.i IntKind.i64 a0.num), AV.d (D.s a0.name), AV.d (D.s a0.mod), AV.r 900004])), (500001, some (Ob.box [AV.d (D.i IntKind.i64 0), AV.d (D.i IntKind.i64 0), AV.d (D.s ByteArray.empty), AV.d (D.s ByteArray.empty), AV.r 500003])), (500002, some (Ob.row 3 (List.map cel r2) true false 0)), (900004, some (Ob.row 5 (List.map cel a0.kids) true false 0)), (500003, some (Ob.row 5 [] true false 0))])
theorem n105_eq (a0 : TreeExpr) : n105 a0 = l105_3 a0 0 [] := by
  rw [n105, fnE_code h105 rfl Go.Proofs.Try.func105 (c := cd105) rfl (a0, ()) rfl]
  simp (maxSteps := 60000000) (disch := first | (intros; rename_i h; cases h; done) | decide +kernel) only [evS, seS, List.map_replicate, Nat.reduceDiv, Nat.reduceMod, Nat.reduceEqDiff, reduceCtorEq, ↓reduceIte, Nat.reduceLT, Nat.reduceAdd, Nat.reduceMul, Nat.reduceSub, Nat.reduceLeDiff, Nat.reduceBEq, Int.reduceEq, Int.reduceNeg, Int.reduceToNat, Int.reduceLE, Int.reduceLT, cd105, Go.Proofs.Try.f105, h105.r, m105, lv_pl, pl105, c106, c137, c138, c139, lv105_3, l105_3]
  all_goals try simp only [rnS, seS, Nat.reduceEqDiff, reduceCtorEq, ↓reduceIte, Nat.reduceAdd, Nat.reduceLeDiff, Nat.reduceBEq, Nat.reduceMul, lv105_3]
theorem l105_3_eq (a0 : TreeExpr) (t4 : Int) (r2 : List MeanVal) : l105_3 a0 t4 r2 = if t4 < (↑a0.kids.length : Int) then (getI a0.kids t4).bind fun y0 => a0.kids[t4.toNat]?.bind fun y3 => a0.kids[t4.toNat]?.bind fun y6 => (n106 (TreeExpr.mk y3.kind y3.num y3.name y3.mod y6.kids)).bind fun y7 => if y7.snd = false then some a0 else if (r2.length + 1) * 40 ≤ 140737488355328 ∧ r2.length ≤ 140737488355327 then l105_3 a0 (IntKind.i64.wrap (t4 + 1)) (r2 ++ [y7.fst]) else none else bindB (if a0.name = ByteArray.mk #[112, 114, 105, 110, 116] then some true else (n137 a0.name r2).bind fun y8 => some !y8) fun y9 => if y9 = true then some a0 else (n138 a0.name r2).bind fun y10 => (n139 y10.fst).bind fun y11 => if 0 < y10.snd ∨ y11.snd = false then some a0 else some y11.fst := by
  rw [l105_3]
  simp only [evRAt, locS, cd105, Go.Proofs.Try.f105]
  rw [evR_eq]
  simp (maxSteps := 60000000) (disch := first | (intros; rename_i h; cases h; done) | decide +kernel) only [evS, seS, List.map_replicate, Nat.reduceDiv, Nat.reduceMod, Nat.reduceEqDiff, reduceCtorEq, ↓reduceIte, Nat.reduceLT, Nat.reduceAdd, Nat.reduceMul, Nat.reduceSub, Nat.reduceLeDiff, Nat.reduceBEq, Int.reduceEq, Int.reduceNeg, Int.reduceToNat, Int.reduceLE, Int.reduceLT, cd105, Go.Proofs.Try.f105, h105.r, m105, lv_pl, pl105, c106, c137, c138, c139, lv105_3, l105_3]
  all_goals try simp only [rnS, seS, Nat.reduceEqDiff, reduceCtorEq, ↓reduceIte, Nat.reduceAdd, Nat.reduceLeDiff, Nat.reduceBEq, Nat.reduceMul, lv105_3]
  all_goals try simp only [bindN_eq]
end Go.Fs.Se

set_option linter.unusedVariables false
set_option linter.unusedSimpArgs false
set_option maxRecDepth 40000
set_option maxHeartbeats 4000000
open Go.RowKit
namespace Go.Fs.Se
open Cel (cel unc)
open Dat (enc dec)
open Arg (ea da)
/-! loop.example/smithy/impl.folded -/
theorem n109_eq (a0 : TreeExpr) : n109 a0 = bindB (if a0.kind = 5 then (getI a0.kids 0).bind fun y0 => a0.kids[0]?.bind fun y3 => some (decide (y3.kind = 2)) else some false) fun y4 => if y4 = true then (getI a0.kids 0).bind fun y5 => a0.kids[0]?.bind fun y8 => (getI a0.kids (IntKind.i64.wrap (2 - y8.num))).bind fun y9 => a0.kids[(IntKind.i64.wrap (2 - y8.num)).toNat]?.bind fun y12 => a0.kids[(IntKind.i64.wrap (2 - y8.num)).toNat]?.bind fun y15 => some (TreeExpr.mk y12.kind y12.num y12.name y12.mod y15.kids) else if decide (a0.kind = 4) = false ∨ a0.name = ByteArray.mk #[112, 114, 105, 110, 116] then some a0 else if decide (a0.name = ByteArray.mk #[97, 110, 100]) = false ∧ decide (a0.name = ByteArray.mk #[111, 114]) = false then (n145 a0).bind fun y16 => if y16.snd = true then some y16.fst else some a0 else (getI a0.kids 0).bind fun y17 => a0.kids[0]?.bind fun y20 => if y20.kind = 2 then (getI a0.kids 0).bind fun y21 => a0.kids[0]?.bind fun y24 => if (decide (y24.num = 1) == decide (a0.name = ByteArray.mk #[97, 110, 100])) = true then (getI a0.kids 1).bind fun y25 => a0.kids[1]?.bind fun y28 => a0.kids[1]?.bind fun y31 => some (TreeExpr.mk y28.kind y28.num y28.name y28.mod y31.kids) else (getI a0.kids 0).bind fun y32 => a0.kids[0]?.bind fun y35 => a0.kids[0]?.bind fun y38 => some (TreeExpr.mk y35.kind y35.num y35.name y35.mod y38.kids) else some a0 := by
  rw [n109, fnE_code h109 rfl Go.Proofs.Try.func109 (c := cd109) rfl (a0, ()) rfl]
  simp (maxSteps := 60000000) (disch := first | (intros; rename_i h; cases h; done) | decide +kernel) only [evS, seS, List.map_replicate, Nat.reduceDiv, Nat.reduceMod, Nat.reduceEqDiff, reduceCtorEq, ↓reduceIte, Nat.reduceLT, Nat.reduceAdd, Nat.reduceMul, Nat.reduceSub, Nat.reduceLeDiff, Nat.reduceBEq, Int.reduceEq, Int.reduceNeg, Int.reduceToNat, Int.reduceLE, Int.reduceLT, cd109, Go.Proofs.Try.f109, h109.r, m109, lv_pl, pl109, c145]
  all_goals try simp only [bindN_eq]
end Go.Fs.Se

set_option linter.unusedVariables false
set_option linter.unusedSimpArgs false
set_option maxRecDepth 40000
set_option maxHeartbeats 4000000
open Go.RowKit
namespace Go.Fs.Se
open Cel (cel unc)
open Dat (enc dec)
open Arg (ea da)
/-! loop.example/smithy/spec.l18Written -/
theorem n139_eq (a0 : MeanVal) : n139 a0 = if a0.kind = 2 then if decide (a0.kind = 3) = false then if decide (a0.kind = 3) = false then (n135 (TreeExpr.mk 2 a0.num ByteArray.empty ByteArray.empty [])).bind fun y0 => some (TreeExpr.mk 2 a0.num ByteArray.empty ByteArray.empty [], y0) else some (TreeExpr.mk 2 a0.num ByteArray.empty ByteArray.empty [], false) else if decide (a0.kind = 3) = false then none else some (TreeExpr.mk 2 a0.num ByteArray.empty ByteArray.empty [], false) else if decide (a0.kind = 3) = false then if decide (a0.kind = 3) = false then (n135 (TreeExpr.mk 1 a0.num ByteArray.empty ByteArray.empty [])).bind fun y1 => some (TreeExpr.mk 1 a0.num ByteArray.empty ByteArray.empty [], y1) else some (TreeExpr.mk 1 a0.num ByteArray.empty ByteArray.empty [], false) else if decide (a0.kind = 3) = false then none else some (TreeExpr.mk 1 a0.num ByteArray.empty ByteArray.empty [], false) := by
  rw [n139, fnO_code h139 rfl Go.Proofs.Try.func139 (c := cd139) rfl (a0, ()) rfl]
  simp (maxSteps := 60000000) (disch := first | (intros; rename_i h; cases h; done) | decide +kernel) only [evS, seS, List.map_replicate, Nat.reduceDiv, Nat.reduceMod, Nat.reduceEqDiff, reduceCtorEq, ↓reduceIte, Nat.reduceLT, Nat.reduceAdd, Nat.reduceMul, Nat.reduceSub, Nat.reduceLeDiff, Nat.reduceBEq, Int.reduceEq, Int.reduceNeg, Int.reduceToNat, Int.reduceLE, Int.reduceLT, cd139, Go.Proofs.Try.f139, h139.r, m139, lv_pl, pl139, c135]
  all_goals try simp only [bindN_eq]
end Go.Fs.Se

set_option linter.unusedVariables false
set_option linter.unusedSimpArgs false
set_option maxRecDepth 40000
set_option maxHeartbeats 4000000
open Go.RowKit
namespace Go.Fs.Se
open Cel (cel unc)
open Dat (enc dec)
open Arg (ea da)
/-! loop.example/smithy/impl.reckoned -/
noncomputable def l145_3 (a0 : TreeExpr) (t15 : Int) (r2 : List MeanVal) : Option (TreeExpr × Bool) := evRAt (envOf M .x) (lvT 145) cd145 [true, true, false, true, false] (endK (β := TreeExpr × Bool) M 145 .x Go.Proofs.Try.f145.results.toList) (stL 46 [(1, AV.a 500000 0), (2, AV.a 500001 0), (4, AV.r 500002), (13, AV.d (D.l 5 (List.map cel a0.kids))), (14, AV.d (D.i IntKind.i64 (↑a0.kids.length : Int))), (15, AV.d (D.i IntKind.i64 t15))] [(500000, some (Ob.box [AV.d (D.i IntKind.i64 a0.kind), AV.d (D.i IntKind.i64 a0.num), AV.d (D.s a0.name), AV.d (D.s a0.mod), AV.d (D.l 5 (List.map cel a0.kids))])), (500001, some (Ob.box [AV.d (D.i IntKind.i64 0), AV.d (D.i IntKind.i64 0), AV.d (D.s ByteArray.empty), AV.d (D.s ByteArray.empty), AV.r 500003])), (500002, some (Ob.row 3 (List.map cel r2) true false 0)), (500003, some (Ob.row 5 [] true false 0))])
theorem n145_eq (a0 : TreeExpr) : n145 a0 = l145_3 a0 0 [] := by
  rw [n145, fnO_code h145 rfl Go.Proofs.Try.func145 (c := cd145) rfl (a0, ()) rfl]
  simp (maxSteps := 60000000) (disch := first | (intros; rename_i h; cases h; done) | decide +kernel) only [evS, seS, List.map_replicate, Nat.reduceDiv, Nat.reduceMod, Nat.reduceEqDiff, reduceCtorEq, ↓reduceIte, Nat.reduceLT, Nat.reduceAdd, Nat.reduceMul, Nat.reduceSub, Nat.reduceLeDiff, Nat.reduceBEq, Int.reduceEq, Int.reduceNeg, Int.reduceToNat, Int.reduceLE, Int.reduceLT, cd145, Go.Proofs.Try.f145, h145.r, m145, lv_pl, pl145, c161, c162, c163, lv145_3, l145_3]
  all_goals try simp only [rnS, seS, Nat.reduceEqDiff, reduceCtorEq, ↓reduceIte, Nat.reduceAdd, Nat.reduceLeDiff, Nat.reduceBEq, Nat.reduceMul, lv145_3]
theorem l145_3_eq (a0 : TreeExpr) (t15 : Int) (r2 : List MeanVal) : l145_3 a0 t15 r2 = if t15 < (↑a0.kids.length : Int) then (getI a0.kids t15).bind fun y0 => (n161 y0).bind fun y1 => if y1.snd = false then some (TreeExpr.mk 0 0 ByteArray.empty ByteArray.empty [], false) else if (r2.length + 1) * 40 ≤ 140737488355328 ∧ r2.length ≤ 140737488355327 then l145_3 a0 (IntKind.i64.wrap (t15 + 1)) (r2 ++ [y1.fst]) else none else (n162 a0.name r2).bind fun y2 => if decide (y2.snd = 0) = false then some (TreeExpr.mk 0 0 ByteArray.empty ByteArray.empty [], false) else (n163 y2.fst).bind fun y3 => some (y3.fst, y3.snd) := by
  rw [l145_3]
  simp only [evRAt, locS, cd145, Go.Proofs.Try.f145]
  rw [evR_eq]
  simp (maxSteps := 60000000) (disch := first | (intros; rename_i h; cases h; done) | decide +kernel) only [evS, seS, List.map_replicate, Nat.reduceDiv, Nat.reduceMod, Nat.reduceEqDiff, reduceCtorEq, ↓reduceIte, Nat.reduceLT, Nat.reduceAdd, Nat.reduceMul, Nat.reduceSub, Nat.reduceLeDiff, Nat.reduceBEq, Int.reduceEq, Int.reduceNeg, Int.reduceToNat, Int.reduceLE, Int.reduceLT, cd145, Go.Proofs.Try.f145, h145.r, m145, lv_pl, pl145, c161, c162, c163, lv145_3, l145_3]
  all_goals try simp only [rnS, seS, Nat.reduceEqDiff, reduceCtorEq, ↓reduceIte, Nat.reduceAdd, Nat.reduceLeDiff, Nat.reduceBEq, Nat.reduceMul, lv145_3]
  all_goals try simp only [bindN_eq]
end Go.Fs.Se

set_option linter.unusedVariables false
set_option linter.unusedSimpArgs false
set_option maxRecDepth 40000
set_option maxHeartbeats 4000000
open Go.RowKit
namespace Go.Fs.Se
open Cel (cel unc)
open Dat (enc dec)
open Arg (ea da)
/-! loop.example/smithy/impl.literal -/
theorem n163_eq (a0 : MeanVal) : n163 a0 = if a0.kind = 2 then if decide (a0.kind = 3) = false then if decide (a0.kind = 3) = false then (n142 (TreeExpr.mk 2 a0.num ByteArray.empty ByteArray.empty [])).bind fun y0 => some (TreeExpr.mk 2 a0.num ByteArray.empty ByteArray.empty [], y0) else some (TreeExpr.mk 2 a0.num ByteArray.empty ByteArray.empty [], false) else if decide (a0.kind = 3) = false then none else some (TreeExpr.mk 2 a0.num ByteArray.empty ByteArray.empty [], false) else if decide (a0.kind = 3) = false then if decide (a0.kind = 3) = false then (n142 (TreeExpr.mk 1 a0.num ByteArray.empty ByteArray.empty [])).bind fun y1 => some (TreeExpr.mk 1 a0.num ByteArray.empty ByteArray.empty [], y1) else some (TreeExpr.mk 1 a0.num ByteArray.empty ByteArray.empty [], false) else if decide (a0.kind = 3) = false then none else some (TreeExpr.mk 1 a0.num ByteArray.empty ByteArray.empty [], false) := by
  rw [n163, fnO_code h163 rfl Go.Proofs.Try.func163 (c := cd163) rfl (a0, ()) rfl]
  simp (maxSteps := 60000000) (disch := first | (intros; rename_i h; cases h; done) | decide +kernel) only [evS, seS, List.map_replicate, Nat.reduceDiv, Nat.reduceMod, Nat.reduceEqDiff, reduceCtorEq, ↓reduceIte, Nat.reduceLT, Nat.reduceAdd, Nat.reduceMul, Nat.reduceSub, Nat.reduceLeDiff, Nat.reduceBEq, Int.reduceEq, Int.reduceNeg, Int.reduceToNat, Int.reduceLE, Int.reduceLT, cd163, Go.Proofs.Try.f163, h163.r, m163, lv_pl, pl163, c142]
  all_goals try simp only [bindN_eq]
end Go.Fs.Se
