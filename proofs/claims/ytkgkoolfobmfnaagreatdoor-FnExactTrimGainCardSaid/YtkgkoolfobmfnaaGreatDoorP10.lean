/- A part of the proof: an evaluator of the program's code over plain data, proved sound; the equations of its functions; what they compute. No conditions beyond those in the theorems. -/
import Derived.Test.YtkgkoolfobmfnaaGreatDoorProg
import Derived.Test.YtkgkoolfobmfnaaGreatDoorP9
set_option linter.unusedVariables false
set_option linter.unusedSimpArgs false
set_option linter.constructorNameAsVariable false
set_option linter.unusedSectionVars false
set_option linter.defProp false
set_option maxRecDepth 20000
namespace Go.Fs
def locS := (And.intro (And.intro (And.intro @evW_loop @loc_nil) (And.intro @loc_seq0 @loc_seq1)) (And.intro (And.intro @loc_cond0 @loc_cond1) (And.intro @loc_block @loc_loop)))
def evS := (And.intro (And.intro (And.intro (And.intro (And.intro (And.intro (And.intro (And.intro (And.intro @Go.Fs.evK_seq @Go.Fs.evK_block) (And.intro @Go.Fs.evK_skip (And.intro @Go.Fs.evK_exit @Go.Fs.evK_ret))) (And.intro (And.intro @Go.Fs.evK_cond (And.intro @Go.Fs.evK_region @Go.Fs.regK_eq)) (And.intro @Go.Fs.thenK_normal (And.intro @Go.Fs.thenK_exit @Go.Fs.thenK_ret)))) (And.intro (And.intro (And.intro @Go.Fs.lpK_normal @Go.Fs.lpK_exit) (And.intro @Go.Fs.lpK_ret (And.intro @Go.Fs.blkK_normal @Go.Fs.blkK_exit))) (And.intro (And.intro @Go.Fs.blkK_ret (And.intro @Go.Fs.regY_0 @Go.Fs.regY_x)) (And.intro @Go.Fs.regY_p0 (And.intro @Go.Fs.y0K_nil @Go.Fs.y0K_cons))))) (And.intro (And.intro (And.intro (And.intro @Go.Fs.regY_p @Go.Fs.regY_f) (And.intro @Go.Fs.yK_nil (And.intro @Go.Fs.yK_cons @Go.Fs.stepY.eq_1))) (And.intro (And.intro @Go.Fs.wrB.eq_1 (And.intro @Go.Fs.allP.eq_1 @Go.Fs.allP.eq_2)) (And.intro @Go.Fs.endY.eq_1 (And.intro @Go.Fs.chkY.eq_1 @Go.Fs.chkZ_mk)))) (And.intro (And.intro (And.intro @Go.Fs.eq_oOb (And.intro @Go.Fs.eq_nat @List.length_set.{0})) (And.intro @Go.Fs.hRow.eq_1 (And.intro @Go.Fs.keyR.eq_1 @Go.Fs.keyR.eq_2))) (And.intro (And.intro @Go.Fs.rowSame.eq_1 (And.intro @Go.Fs.rowSame.eq_2 @Go.Fs.hKey.eq_1)) (And.intro @Go.Fs.keyE.eq_1 (And.intro @Go.Fs.keyE.eq_2 @Go.Fs.qFn.eq_1)))))) (And.intro (And.intro (And.intro (And.intro (And.intro @Go.Fs.evQ.eq_1 @Go.Fs.hInd.eq_1) (And.intro @Go.Fs.isDa.eq_1 (And.intro @Go.Fs.isDa.eq_2 @Go.Fs.isDr.eq_1))) (And.intro (And.intro @Go.Fs.isDr.eq_2 (And.intro @Go.Fs.isDr.eq_3 @Go.Fs.isQa.eq_1)) (And.intro @Go.Fs.isQa.eq_2 (And.intro @Go.Fs.isQa.eq_3 @Go.Fs.lit10S)))) (And.intro (And.intro (And.intro @Go.Fs.prsOf.eq_1 @Go.Fs.prsOf.eq_2) (And.intro @Go.Fs.eq_AV (And.intro @Go.Fs.eq_oAV @List.getElem?_toArray.{0}))) (And.intro (And.intro @List.size_toArray.{0} (And.intro @List.lookup_cons.{0,0} @List.lookup_nil.{0,0})) (And.intro @Option.getD_none.{0} (And.intro @Go.Fs.regE_0 @Go.Fs.regE_g))))) (And.intro (And.intro (And.intro (And.intro @Go.Fs.regE_q @Go.Fs.regE_gq) (And.intro @Go.Fs.regE_x (And.intro @Go.Fs.gsK_nil @Go.Fs.gsK_0))) (And.intro (And.intro @Go.Fs.gsK_1 (And.intro @Go.Fs.gd1.eq_1 @Go.Fs.gd1.eq_2)) (And.intro @Go.Fs.lastD.eq_1 (And.intro @Go.Fs.lastD.eq_2 @Go.Fs.lastD.eq_3)))) (And.intro (And.intro (And.intro @Go.Fs.segs.eq_1 (And.intro @Go.Fs.segs.eq_2 @Go.Fs.segs.eq_3)) (And.intro @Go.Fs.cutB.eq_1 (And.intro @Go.Fs.cutG.eq_1 @Go.Fs.gdB.eq_1))) (And.intro (And.intro @List.isEmpty_cons.{0} (And.intro @Option.isSome_some.{0} @Option.isSome_none.{0})) (And.intro @List.reverse_cons.{0} (And.intro @List.reverse_nil.{0} @Go.Fs.opsK_nil))))))) (And.intro (And.intro (And.intro (And.intro (And.intro (And.intro @Go.Fs.opsK_cons @Go.Fs.qsK_nil) (And.intro @Go.Fs.qsK_cons (And.intro @Go.Fs.xsK_nil @Go.Fs.xsK_cons))) (And.intro (And.intro @Go.Fs.gdE_eq (And.intro @Go.Fs.gdS.eq_1 @Go.Fs.dstsOf.eq_1)) (And.intro @Go.Fs.forget_at (And.intro @Go.Fs.asB_b @Go.Fs.and_some)))) (And.intro (And.intro (And.intro @Go.Fs.or_some @Go.Fs.bindB_some) (And.intro @Go.Fs.bindB_none (And.intro @Go.Fs.bindB_bind @Go.Fs.bindB_id))) (And.intro (And.intro @Go.Fs.bind_id (And.intro @Go.Fs.opG.eq_1 @Go.Fs.opE.eq_1)) (And.intro @Go.Fs.qGE.eq_1 (And.intro @Go.Fs.qE.eq_1 @Go.Fs.rdE.eq_1))))) (And.intro (And.intro (And.intro (And.intro @Go.Fs.frE.eq_1 @Go.Fs.xE.eq_1) (And.intro @Go.Fs.flB.eq_1 (And.intro @Go.Fs.rdB.eq_1 @Go.Fs.frB.eq_1))) (And.intro (And.intro @Go.Fs.scalO.eq_1 (And.intro @Go.Fs.shaO.eq_1 @Go.Fs.valE.eq_1)) (And.intro @Go.Fs.oPut.eq_1 (And.intro @Go.Fs.oPut.eq_2 @Go.Fs.ownE.eq_1)))) (And.intro (And.intro (And.intro @Go.Fs.sharedE.eq_1 (And.intro @Go.Fs.nestE.eq_1 @Go.Fs.ioE3.eq_1)) (And.intro @Go.Fs.ioE2.eq_1 (And.intro @Go.Fs.callE.eq_1 @Go.Fs.storeE.eq_1))) (And.intro (And.intro @Go.Fs.dstAt.eq_1 (And.intro @Go.Fs.vo_move @Go.Fs.vo_assign)) (And.intro @Go.Fs.vo_fieldAddr (And.intro @Go.Fs.vo_indexAddr @Go.Fs.vo_index)))))) (And.intro (And.intro (And.intro (And.intro (And.intro @Go.Fs.vo_binOp @Go.Fs.vo_unOp) (And.intro @Go.Fs.vo_convert (And.intro @Go.Fs.vo_alloc @Go.Fs.vo_box))) (And.intro (And.intro @Go.Fs.vo_build (And.intro @Go.Fs.vo_buildSlice @Go.Fs.vo_makeSlice)) (And.intro @Go.Fs.vo_call (And.intro @Go.Fs.vo_load @Go.Fs.vo_extract)))) (And.intro (And.intro (And.intro @Go.Fs.vo_slice @Go.Fs.vo_makeFunc) (And.intro @Go.Fs.evP.eq_1 (And.intro @Go.Fs.pairH.eq_1 @Go.Fs.ixC.eq_1))) (And.intro (And.intro @Go.Fs.boxC.eq_1 (And.intro @Go.Fs.bldC.eq_1 @Go.Fs.bslC.eq_1)) (And.intro @Go.Fs.callB.eq_1 (And.intro @Go.Fs.capsOK.eq_1 @Go.Fs.capsOK.eq_2))))) (And.intro (And.intro (And.intro (And.intro @Go.Fs.capsOK.eq_3 @Go.Fs.capsOK.eq_4) (And.intro @Go.Fs.St.ev.eq_1 (And.intro @Go.Fs.St.ev.eq_2 @Go.Fs.St.ev.eq_3))) (And.intro (And.intro @Go.Fs.St.ev.eq_4 (And.intro @Go.Fs.inSt_eq @Go.Fs.insL.eq_1)) (And.intro @Go.Fs.insL.eq_2 (And.intro @Go.Fs.inHeap.eq_1 @Go.Fs.inHeap.eq_2)))) (And.intro (And.intro (And.intro @Go.Fs.inHeap.eq_3 (And.intro @Go.Fs.keyIn_eq @Go.Fs.ovr_eq)) (And.intro @Go.Fs.inAV.eq_1 (And.intro @Go.Fs.inAV.eq_2 @Go.Fs.inAV.eq_3))) (And.intro (And.intro @Go.Fs.inAV.eq_4 (And.intro @Go.Fs.fixZ.eq_1 @Go.Fs.fixZ.eq_2)) (And.intro @Go.Fs.zargs.eq_1 (And.intro @Go.Fs.zargs.eq_2 @Go.Fs.zargs.eq_3)))))))) (And.intro (And.intro (And.intro (And.intro (And.intro (And.intro (And.intro @Go.Fs.keyOf.eq_1 @Go.Fs.keyOf.eq_2) (And.intro @Go.Fs.freeAll.eq_1 (And.intro @Go.Fs.freeAll.eq_2 @Go.Fs.apart.eq_1))) (And.intro (And.intro @Go.Fs.nodupB.eq_1 (And.intro @Go.Fs.nodupB.eq_2 @Go.Fs.upd_at)) (And.intro @Go.Fs.constAV_i (And.intro @Go.Fs.constAV_b @Go.Fs.constAV_s)))) (And.intro (And.intro (And.intro @Go.Fs.constAV_z @Go.Fs.constAV_n) (And.intro @Go.Fs.litS.eq_1 (And.intro @Go.Fs.litS.eq_2 @Go.Fs.eqNil_e))) (And.intro (And.intro @Go.Fs.eqNil_n (And.intro @Go.Fs.mapv.eq_1 @Go.Fs.mapv.eq_2)) (And.intro @Go.Fs.mapv.eq_3 (And.intro @Go.Fs.mapv.eq_4 @Go.Fs.kvSet_nil))))) (And.intro (And.intro (And.intro (And.intro @Go.Fs.mI_nil @Go.Fs.mI_set) (And.intro @Go.Fs.mI_get (And.intro @Go.Fs.mI_getD @Go.Fs.takeM_d))) (And.intro (And.intro @Go.Fs.takeM_r (And.intro @Go.Fs.takeM_z @Go.Fs.takeM_m)) (And.intro @Go.Fs.takeC.eq_1 (And.intro @Go.Fs.takeD.eq_1 @Go.Fs.takeD.eq_2)))) (And.intro (And.intro (And.intro @Go.Fs.appC.eq_1 (And.intro @Go.Fs.bT_eq @Go.Fs.bdC.eq_1)) (And.intro @Go.Fs.bdC.eq_2 (And.intro @Go.Fs.bdR.eq_1 @Go.Fs.bdOb.eq_1))) (And.intro (And.intro @Go.Fs.bdOb.eq_2 (And.intro @Go.Fs.bW_s @Go.Fs.bS_n)) (And.intro @Go.Fs.bxC.eq_1 (And.intro @Go.Fs.bxC.eq_2 @Go.Fs.bxR.eq_1)))))) (And.intro (And.intro (And.intro (And.intro (And.intro @Go.Fs.bxObs.eq_1 @Go.Fs.opNilC.eq_1) (And.intro @Go.Fs.opNilC.eq_2 (And.intro @Go.Fs.opNilC.eq_3 @Go.Fs.opNilC.eq_4))) (And.intro (And.intro @Go.Fs.opNilC.eq_5 (And.intro @Go.Fs.vo_nilCheck @Go.Fs.ev2_t)) (And.intro @Go.Fs.ev2_i (And.intro @Go.Fs.ev2_b @Go.Fs.ev2_s)))) (And.intro (And.intro (And.intro @Go.Fs.ev2_z @Go.Fs.ev2_n) (And.intro @Go.Fs.ev2_nl (And.intro @Go.Fs.gT_0 @Go.Fs.gT_1))) (And.intro (And.intro @Go.Fs.getI_strD (And.intro @Go.Fs.strD_len @Go.Fs.opW_len)) (And.intro @Go.Fs.tyW_len (And.intro @Go.Fs.le_ml3 @Go.Fs.le_ml10))))) (And.intro (And.intro (And.intro (And.intro @Go.Fs.rows_strD @Go.Fs.inAV_p) (And.intro @Go.Fs.inAV_l (And.intro @Go.Fs.inAV_g @Go.Fs.inHeap_p))) (And.intro (And.intro @Go.Fs.inHeap_l (And.intro @Go.Fs.inHeap_g @Go.Fs.inHeap_d)) (And.intro @Go.Fs.moveV_d (And.intro @Go.Fs.moveV_r @Go.Fs.moveV_z)))) (And.intro (And.intro (And.intro @Go.Fs.moveV_a (And.intro @Go.Fs.gI10S @Go.Fs.enc_P)) (And.intro @Go.Fs.dec_P (And.intro @Go.Fs.enc_E @Go.Fs.dec_E))) (And.intro (And.intro @Go.Fs.cel_E (And.intro @Go.Fs.w_E @Go.Fs.opBin.eq_1)) (And.intro @Go.Fs.opBin.eq_2 (And.intro @Go.Fs.opBin.eq_3 @Go.Fs.opBin.eq_4))))))) (And.intro (And.intro (And.intro (And.intro (And.intro (And.intro @Go.Fs.opBin.eq_5 @Go.Fs.nilCmp.eq_1) (And.intro @Go.Fs.nilCmp.eq_2 (And.intro @Go.Fs.nilCmp.eq_3 @Go.Fs.opUn.eq_1))) (And.intro (And.intro @Go.Fs.opUn.eq_2 (And.intro @Go.Fs.opUn.eq_3 @Go.Fs.opConv.eq_def)) (And.intro @Go.Fs.opExtract.eq_1 (And.intro @Go.Fs.opExtract.eq_2 @Go.Fs.binD.eq_1)))) (And.intro (And.intro (And.intro @Go.Fs.binD.eq_2 @Go.Fs.binD.eq_3) (And.intro @Go.Fs.binD.eq_4 (And.intro @Go.Fs.binD.eq_5 @Go.Fs.binD.eq_6))) (And.intro (And.intro @Go.Fs.binD.eq_7 (And.intro @Go.Fs.binD.eq_8 @Go.Fs.binD.eq_9)) (And.intro @Go.Fs.binD.eq_10 (And.intro @Go.Fs.binD.eq_11 @Go.Fs.binD.eq_12))))) (And.intro (And.intro (And.intro (And.intro @Go.Fs.binD.eq_13 @Go.Fs.binD.eq_14) (And.intro @Go.Fs.binD.eq_15 (And.intro @Go.Fs.binD.eq_16 @Go.Fs.binD.eq_17))) (And.intro (And.intro @Go.Fs.binD.eq_18 (And.intro @Go.Fs.binD.eq_19 @Go.Fs.binD.eq_20)) (And.intro @Go.Fs.binD.eq_21 (And.intro @Go.Fs.binD.eq_22 @Go.Fs.binD.eq_23)))) (And.intro (And.intro (And.intro @Go.Fs.binD.eq_24 (And.intro @Go.Fs.opLen.eq_1 @Go.Fs.opLen.eq_2)) (And.intro @Go.Fs.opLen.eq_3 (And.intro @Go.Fs.opLen.eq_4 @Go.Fs.opLen.eq_5))) (And.intro (And.intro @Go.Fs.opLen.eq_6 (And.intro @Go.Fs.opIndex.eq_1 @Go.Fs.opField.eq_1)) (And.intro @Go.Fs.opLoad.eq_1 (And.intro @Go.Fs.ixE.eq_1 @Go.Fs.getI_map)))))) (And.intro (And.intro (And.intro (And.intro (And.intro @Go.Fs.getI_set @Go.Fs.lit3S) (And.intro @Go.Fs.gI3S (And.intro @Go.Fs.uncL_setI @Go.Fs.uncL_setB))) (And.intro (And.intro @Go.Fs.uncL_setS (And.intro @Int.cast_ofNat_Int @Go.Fs.set_get)) (And.intro @List.set_set.{0} (And.intro @Go.Fs.opB2S.eq_1 @Go.Fs.byteL.eq_1)))) (And.intro (And.intro (And.intro @Go.Fs.byteL.eq_2 (And.intro @Go.Fs.byteL.eq_3 @Go.Fs.ldE.eq_1)) (And.intro @Go.Fs.ldE.eq_2 (And.intro @Go.Fs.loadE.eq_1 @Go.Fs.loadC.eq_1))) (And.intro (And.intro @Go.Fs.stE.eq_1 (And.intro @Go.Fs.stE.eq_2 @Go.Fs.opMax.eq_1)) (And.intro @Go.Fs.opMax.eq_2 (And.intro @Go.Fs.opMin.eq_1 @Go.Fs.opMin.eq_2))))) (And.intro (And.intro (And.intro (And.intro @List.getElem?_map.{0,0} @Go.Fs.opStore.eq_1) (And.intro @Go.Fs.opBox.eq_1 (And.intro @Go.Fs.opAlloc.eq_1 @Go.Fs.opMake.eq_1))) (And.intro (And.intro @Go.Fs.opAppend.eq_1 (And.intro @Go.Fs.opBuildSlice.eq_1 @Go.Fs.opBuild.eq_1)) (And.intro @Go.Fs.opSlice.eq_1 (And.intro @Go.Fs.opSlice.eq_2 @Go.Fs.opByte.eq_1)))) (And.intro (And.intro (And.intro @Go.Fs.opByte.eq_2 (And.intro @Go.Fs.srcA.eq_1 @Go.Fs.srcA.eq_2)) (And.intro @Go.Fs.srcA.eq_3 (And.intro @Go.Fs.srcA.eq_4 @Go.Fs.zsc.eq_1))) (And.intro (And.intro @Go.Fs.zsc.eq_2 (And.intro @Go.Fs.all_I @Go.Fs.all_B)) (And.intro @Go.Fs.all_S (And.intro @Go.Fs.all_U @Go.Fs.map_dropR))))))))) (And.intro (And.intro (And.intro (And.intro (And.intro (And.intro (And.intro (And.intro @Go.Fs.map_takeR @List.map_append.{0,0}) (And.intro @List.map_set.{0,0} (And.intro @List.all_append.{0} @Go.Fs.dem1.eq_1))) (And.intro (And.intro @Go.Fs.demote.eq_1 (And.intro @Go.Fs.demote.eq_2 @Go.Fs.demote1.eq_1)) (And.intro @Go.Fs.demote1.eq_2 (And.intro @Go.Fs.demoteL.eq_1 @Go.Fs.demoteL.eq_2)))) (And.intro (And.intro (And.intro @Go.Fs.demAll.eq_1 @Go.Fs.demAll.eq_2) (And.intro @Go.Fs.TK.agg.eq_1 (And.intro @Go.Fs.TK.agg.eq_2 @Go.Fs.TK.agg.eq_3))) (And.intro (And.intro @Go.Fs.TK.agg.eq_4 (And.intro @Go.Fs.pack.eq_1 @Go.Fs.cellsA.eq_1)) (And.intro @Go.Fs.cellsA.eq_2 (And.intro @Go.Fs.oneA.eq_1 @Go.Fs.oneA.eq_2))))) (And.intro (And.intro (And.intro (And.intro @Go.Fs.oneA.eq_3 @Go.Fs.oneA.eq_4) (And.intro @Go.Fs.oneA.eq_5 (And.intro @Go.Fs.oneA.eq_6 @Go.Fs.oneA.eq_7))) (And.intro (And.intro @Go.Fs.oneA.eq_8 (And.intro @Go.Fs.oneA.eq_9 @Go.Fs.moveCs.eq_1)) (And.intro @Go.Fs.moveCs.eq_2 (And.intro @Go.Fs.moveC.eq_1 @Go.Fs.moveC.eq_2)))) (And.intro (And.intro (And.intro @Go.Fs.moveC.eq_3 (And.intro @Go.Fs.moveC.eq_4 @Go.Fs.moveV.eq_1)) (And.intro @Go.Fs.moveV.eq_2 (And.intro @Go.Fs.moveV.eq_3 @Go.Fs.moveVs.eq_1))) (And.intro (And.intro @Go.Fs.moveVs.eq_2 (And.intro @Go.Fs.scal.eq_1 @Go.Fs.scal.eq_2)) (And.intro @Go.Fs.scal.eq_3 (And.intro @Go.Fs.scal.eq_4 @Go.Fs.scal.eq_5)))))) (And.intro (And.intro (And.intro (And.intro (And.intro @Go.Fs.scal.eq_6 @Go.Fs.packD.eq_1) (And.intro @Go.Fs.packD.eq_2 (And.intro @Go.Fs.outR.eq_1 @Go.Fs.resL.eq_1))) (And.intro (And.intro @Go.Fs.resL.eq_2 (And.intro @Go.Fs.resL.eq_3 @Go.Fs.bnd.eq_1)) (And.intro @Go.Fs.bnd.eq_2 (And.intro @Go.Fs.bnd.eq_3 @Go.Fs.fillA.eq_1)))) (And.intro (And.intro (And.intro @Go.Fs.fillA.eq_2 @Go.Fs.placeT.eq_1) (And.intro @Go.Fs.sizesT.eq_1 (And.intro @Go.Fs.zeroD.eq_1 @Go.Fs.zeroD.eq_2))) (And.intro (And.intro @Go.Fs.zeroD.eq_3 (And.intro @Go.Fs.opMkMap.eq_1 @Go.Fs.opMapSet.eq_def)) (And.intro @Go.Fs.opMapGet.eq_def (And.intro @Go.Fs.mAt.eq_1 @Go.Fs.borCE.eq_1))))) (And.intro (And.intro (And.intro (And.intro @Go.Fs.borCE.eq_2 @Go.Fs.borCsE.eq_1) (And.intro @Go.Fs.borCsE.eq_2 (And.intro @Go.Fs.borE.eq_1 @Go.Fs.borE.eq_2))) (And.intro (And.intro @Go.Fs.borE.eq_3 (And.intro @Go.Fs.borE.eq_4 @Go.Fs.borLE.eq_1)) (And.intro @Go.Fs.borLE.eq_2 (And.intro @Go.Fs.borL.eq_1 @Go.Fs.borL.eq_2)))) (And.intro (And.intro (And.intro @Go.Fs.bor.eq_1 (And.intro @Go.Fs.bor.eq_2 @Go.Fs.bor.eq_3)) (And.intro @Go.Fs.borB.eq_1 (And.intro @Go.Fs.borB.eq_2 @Go.Fs.borC.eq_1))) (And.intro (And.intro @Go.Fs.borC.eq_2 (And.intro @Go.Fs.borC.eq_3 @Go.Fs.borC.eq_4)) (And.intro @Go.Fs.borC.eq_5 (And.intro @Go.Fs.borCs.eq_1 @Go.Fs.borCs.eq_2))))))) (And.intro (And.intro (And.intro (And.intro (And.intro (And.intro @Go.Fs.borBs.eq_1 @Go.Fs.borBs.eq_2) (And.intro @Go.Fs.keyA.eq_1 (And.intro @Go.Fs.keyA.eq_2 @Go.Fs.keyA.eq_3))) (And.intro (And.intro @Go.Fs.keyB.eq_1 (And.intro @Go.Fs.keyB.eq_2 @Go.Fs.keyC.eq_1)) (And.intro @Go.Fs.keyC.eq_2 (And.intro @Go.Fs.keyC.eq_3 @Go.Fs.ioCs.eq_1)))) (And.intro (And.intro (And.intro @Go.Fs.ioCs.eq_2 @Go.Fs.ioCs.eq_3) (And.intro @Go.Fs.ioCs.eq_4 (And.intro @Go.Fs.ioCs.eq_5 @Go.Fs.ioObs.eq_1))) (And.intro (And.intro @Go.Fs.ioObs.eq_2 (And.intro @Go.Fs.ioObs.eq_3 @Go.Fs.ioObs.eq_4)) (And.intro @Go.Fs.ioD.eq_1 (And.intro @Go.Fs.ioD.eq_2 @Go.Fs.adObs.eq_1))))) (And.intro (And.intro (And.intro (And.intro @Go.Fs.adObs.eq_2 @Go.Fs.adObs.eq_3) (And.intro @Go.Fs.adCells.eq_1 (And.intro @Go.Fs.adCells.eq_2 @Go.Fs.adCells.eq_3))) (And.intro (And.intro @Go.Fs.partsD.eq_1 (And.intro @Go.Fs.partsD.eq_2 @Go.Fs.cellsD.eq_1)) (And.intro @Go.Fs.cellsD.eq_2 (And.intro @Go.Fs.retAV.eq_1 @Go.Fs.retAV.eq_2)))) (And.intro (And.intro (And.intro @Go.Fs.oneAV.eq_1 (And.intro @Go.Fs.oneAV.eq_2 @Go.Fs.tupAV.eq_1)) (And.intro @Go.Fs.tupAV.eq_2 (And.intro @Go.Fs.updL.eq_1 @Go.Fs.mCells.eq_1))) (And.intro (And.intro @Go.Fs.mCells.eq_2 (And.intro @Go.Fs.mCell.eq_1 @Go.Fs.mCell.eq_2)) (And.intro @Go.Fs.frzL.eq_1 (And.intro @Go.Fs.frzL.eq_2 @Go.Fs.frz1.eq_1)))))) (And.intro (And.intro (And.intro (And.intro (And.intro @Go.Fs.stL_n @Go.Fs.stL_env) (And.intro @Go.Fs.stL_heap (And.intro @Go.Fs.envL_cons @Go.Fs.envL_nil))) (And.intro (And.intro @Go.Fs.obL_cons (And.intro @Go.Fs.obL_nil @Go.Fs.noM.eq_1)) (And.intro @Go.Fs.noM.eq_2 (And.intro @Go.Fs.noMc.eq_1 @Go.Fs.noMc.eq_2)))) (And.intro (And.intro (And.intro @Go.Fs.noMc.eq_3 @Go.Fs.noMc.eq_4) (And.intro @Go.Fs.noMc.eq_5 (And.intro @Go.Fs.noMc.eq_6 @Go.Fs.noMc.eq_7))) (And.intro (And.intro @Go.Fs.noMc.eq_8 (And.intro @Go.Fs.noMc.eq_9 @Go.Fs.endK.eq_1)) (And.intro @Go.Fs.endKM.eq_1 (And.intro @Go.Fs.endEM.eq_1 @Go.Fs.endEM.eq_2))))) (And.intro (And.intro (And.intro (And.intro @Go.Fs.endEM.eq_3 @Go.Fs.outM.eq_1) (And.intro @Go.Fs.moveM.eq_1 (And.intro @Go.Fs.moveM.eq_2 @Go.Fs.moveMs.eq_1))) (And.intro (And.intro @Go.Fs.moveMs.eq_2 (And.intro @Go.Fs.moveMV.eq_1 @Go.Fs.moveMV.eq_2)) (And.intro @Go.Fs.moveMVs.eq_1 (And.intro @Go.Fs.moveMVs.eq_2 @Go.Fs.eatE.eq_1)))) (And.intro (And.intro (And.intro @Go.Fs.eatC.eq_1 (And.intro @Go.Fs.eatC.eq_2 @Go.Fs.eatR.eq_1)) (And.intro @Go.Fs.endI.eq_1 (And.intro @Go.Fs.outI.eq_1 @Go.Fs.decI2.eq_1))) (And.intro (And.intro @Go.Fs.callI_eq (And.intro @Go.Fs.nestC.eq_1 @List.set_cons_zero.{0})) (And.intro @List.set_cons_succ.{0} (And.intro @Go.Fs.endE.eq_1 @Go.Fs.endE.eq_2)))))))) (And.intro (And.intro (And.intro (And.intro (And.intro (And.intro (And.intro @Go.Fs.endE.eq_3 @Go.Fs.outO.eq_1) (And.intro @decide_eq_true_eq (And.intro @Bool.and_eq_true @Bool.or_eq_true))) (And.intro (And.intro @Bool.not_eq_true' (And.intro @decide_true @decide_false)) (And.intro @Go.Fs.enc_I (And.intro @Go.Fs.enc_B @Go.Fs.enc_S)))) (And.intro (And.intro (And.intro @Go.Fs.enc_U @Go.Fs.enc_F) (And.intro @Go.Fs.enc_L (And.intro @Go.Fs.enc_2 @Go.Fs.enc_3))) (And.intro (And.intro @Go.Fs.cel_I (And.intro @Go.Fs.cel_B @Go.Fs.cel_S)) (And.intro @Go.Fs.cel_U (And.intro @Go.Fs.cel_L @Go.Fs.w_I))))) (And.intro (And.intro (And.intro (And.intro @Go.Fs.w_B @Go.Fs.w_S) (And.intro @Go.Fs.w_U (And.intro @Go.Fs.w_L @Go.Fs.dec_I))) (And.intro (And.intro @Go.Fs.dec_B (And.intro @Go.Fs.dec_S @Go.Fs.dec_U)) (And.intro @Go.Fs.dec_F (And.intro @Go.Fs.dec_L @Go.Fs.dec_2)))) (And.intro (And.intro (And.intro @Go.Fs.dec_3 (And.intro @Go.Fs.unc_I @Go.Fs.unc_B)) (And.intro @Go.Fs.unc_S (And.intro @Go.Fs.unc_U @Go.Fs.unc_L))) (And.intro (And.intro @Go.Fs.uncL_nil (And.intro @Go.Fs.uncL_cons @Go.Fs.uncL_app)) (And.intro @Go.Fs.uncL_map (And.intro @Go.Fs.ea_0 @Go.Fs.ea_C)))))) (And.intro (And.intro (And.intro (And.intro (And.intro @Go.Fs.da_0 @Go.Fs.da_C) (And.intro @Go.Fs.putQ.eq_1 (And.intro @Go.Fs.bindN_some @Go.Fs.bindN_none))) (And.intro (And.intro @Go.Fs.bindN_bind (And.intro @Go.Fs.bindN_map @Go.Fs.bindN_omap)) (And.intro @Go.Fs.bindA (And.intro @Go.Fs.compO_eq @Go.Fs.mapA_bind)))) (And.intro (And.intro (And.intro @Go.Fs.compM_eq @Go.Fs.bind_mapA) (And.intro @Go.Fs.compB_eq (And.intro @Go.Fs.getI_bind @Go.Fs.cat_bind))) (And.intro (And.intro @Go.Fs.get_bind (And.intro @Go.Fs.callN_eq @Go.Fs.qsC.eq_1)) (And.intro @Go.Fs.ite_bind (And.intro @Option.bind_some.{0,0} @Option.bind_none.{0,0}))))) (And.intro (And.intro (And.intro (And.intro @Option.map_some.{0,0} @Option.map_none.{0,0}) (And.intro @Go.Fs.map_mapL (And.intro @Go.Fs.map_ite @List.map_cons.{0,0}))) (And.intro (And.intro @List.map_nil.{0,0} (And.intro @List.drop_zero.{0} @List.drop_succ_cons.{0})) (And.intro @List.take_zero.{0} (And.intro @List.take_succ_cons.{0} @List.take_nil.{0})))) (And.intro (And.intro (And.intro @List.drop_nil.{0} (And.intro @List.headD_cons.{0} @List.length_cons.{0})) (And.intro @List.length_nil.{0} (And.intro @List.foldr_cons.{0,0} @List.foldr_nil.{0,0}))) (And.intro (And.intro @List.flatMap_cons.{0,0} (And.intro @List.flatMap_nil.{0,0} @List.append_nil.{0})) (And.intro @List.nil_append.{0} (And.intro @List.cons_append.{0} @List.all_cons.{0}))))))) (And.intro (And.intro (And.intro (And.intro (And.intro (And.intro @List.all_nil.{0} @List.any_cons.{0}) (And.intro @List.any_nil.{0} (And.intro @List.contains_cons.{0} @List.contains_nil.{0}))) (And.intro (And.intro @List.getElem?_cons_zero.{0} (And.intro @List.getElem?_cons_succ.{0} @List.getElem?_nil.{0})) (And.intro @List.zip_cons_cons.{0,0} (And.intro @List.zip_nil_left.{0,0} @List.getD_cons_zero.{0})))) (And.intro (And.intro (And.intro @List.getD_cons_succ.{0} @List.isEmpty_nil.{0}) (And.intro @List.filterMap_cons.{0,0} (And.intro @List.filterMap_nil.{0,0} @List.length_map.{0,0}))) (And.intro (And.intro @Go.Fs.eq_i64 (And.intro @Go.Fs.eq_u8 @false_and)) (And.intro @and_false (And.intro @true_or @or_true))))) (And.intro (And.intro (And.intro (And.intro @false_or @or_false) (And.intro @if_true.{0} (And.intro @if_false.{0} @Int.le_refl))) (And.intro (And.intro @Nat.zero_add (And.intro @Nat.add_zero @Nat.le_refl)) (And.intro @true_and (And.intro @and_true @Bool.and_true)))) (And.intro (And.intro (And.intro @Bool.true_and (And.intro @Bool.and_false @Bool.false_and)) (And.intro @Bool.or_false (And.intro @Bool.or_true @Bool.false_or))) (And.intro (And.intro @Bool.true_or (And.intro @Bool.not_true @Bool.not_false)) (And.intro @Bool.false_eq_true (And.intro @Option.getD_some.{0} @Option.isNone_none.{0})))))) (And.intro (And.intro (And.intro (And.intro (And.intro @Option.isNone_some.{0} @Int.toNat_natCast) (And.intro @Go.Fs.rng_0 (And.intro @Go.Fs.rng_1 @Go.Fs.rng_2))) (And.intro (And.intro @Go.Fs.rng_3 (And.intro @Go.Fs.rng_4 @Go.Fs.rng_5)) (And.intro @Go.Fs.rng_6 (And.intro @Go.Fs.rng_7 @Go.Fs.rng_8)))) (And.intro (And.intro (And.intro @Go.Fs.rng_9 (And.intro @Go.Fs.rng_10 @Go.Fs.rng_11)) (And.intro @Go.Fs.rng_12 (And.intro @Go.Fs.rng_13 @Go.Fs.rng_14))) (And.intro (And.intro @Go.Fs.rng_15 (And.intro @Go.Fs.rng_16 @Go.Fs.rng_17)) (And.intro @Go.Fs.rng_18 (And.intro @Go.Fs.rng_19 @Go.Fs.rng_20))))) (And.intro (And.intro (And.intro (And.intro @Go.Fs.rng_21 @Go.Fs.rng_22) (And.intro @Go.Fs.rng_23 (And.intro @Go.Fs.chunk_z @Go.Fs.chunk_s))) (And.intro (And.intro @Go.Fs.evK_loop (And.intro @Go.Fs.cid.eq_1 @Go.Fs.cid.eq_2)) (And.intro @Go.Fs.cid.eq_3 (And.intro @Go.Fs.cid.eq_4 @Go.Fs.cid.eq_5)))) (And.intro (And.intro (And.intro @Go.Fs.cid.eq_6 (And.intro @Go.Fs.cid.eq_7 @Go.Fs.evAt.eq_1)) (And.intro @Go.Fs.evRAt.eq_1 (And.intro @Go.Fs.evW_loop @Go.Fs.loc_nil))) (And.intro (And.intro @Go.Fs.loc_seq0 (And.intro @Go.Fs.loc_seq1 @Go.Fs.loc_cond0)) (And.intro @Go.Fs.loc_cond1 (And.intro @Go.Fs.loc_block @Go.Fs.loc_loop))))))))))
def rnS := (And.intro (And.intro (And.intro (And.intro (And.intro (And.intro (And.intro @Go.Fs.evK_loop @Go.Fs.cid.eq_1) (And.intro @Go.Fs.cid.eq_2 @Go.Fs.cid.eq_3)) (And.intro (And.intro @Go.Fs.cid.eq_4 @Go.Fs.cid.eq_5) (And.intro @Go.Fs.cid.eq_6 (And.intro @Go.Fs.cid.eq_7 @Go.Fs.rnd.eq_1)))) (And.intro (And.intro (And.intro @Go.Fs.rnd1.eq_1 @Go.Fs.rnd2_e) (And.intro @Go.Fs.rnd3.eq_1 @Go.Fs.noME.eq_1)) (And.intro (And.intro @Go.Fs.noMH.eq_1 @Go.Fs.wkE.eq_1) (And.intro @Go.Fs.wkO.eq_1 (And.intro @Go.Fs.wkC_eq @Go.Fs.keysE.eq_1))))) (And.intro (And.intro (And.intro (And.intro @Go.Fs.keysH.eq_1 @Go.Fs.zsL.eq_1) (And.intro @Go.Fs.zs1.eq_1 @Go.Fs.zcL.eq_1)) (And.intro (And.intro @Go.Fs.zc1.eq_1 @Go.Fs.zboxes.eq_1) (And.intro @Go.Fs.zboxes.eq_2 (And.intro @Go.Fs.zcells.eq_1 @Go.Fs.zcells.eq_2)))) (And.intro (And.intro (And.intro @Go.Fs.zcells.eq_3 @Go.Fs.canon_e) (And.intro @Go.Fs.canon2_e @Go.Fs.canonGo.eq_1)) (And.intro (And.intro @Go.Fs.canonGo.eq_2 @Go.Fs.keysA.eq_1) (And.intro @Go.Fs.keysA.eq_2 (And.intro @Go.Fs.keysA.eq_3 @Go.Fs.keysA.eq_4)))))) (And.intro (And.intro (And.intro (And.intro (And.intro @Go.Fs.keysC.eq_1 @Go.Fs.keysC.eq_2) (And.intro @Go.Fs.keysC.eq_3 @Go.Fs.keysC.eq_4)) (And.intro (And.intro @Go.Fs.keysC.eq_5 @Go.Fs.keysC.eq_6) (And.intro @Go.Fs.keysC.eq_7 (And.intro @Go.Fs.keysO.eq_1 @Go.Fs.keysO.eq_2)))) (And.intro (And.intro (And.intro @Go.Fs.mapA.eq_1 @Go.Fs.mapA.eq_2) (And.intro @Go.Fs.mapA.eq_3 @Go.Fs.mapA.eq_4)) (And.intro (And.intro @Go.Fs.mapA.eq_5 @Go.Fs.mapA.eq_6) (And.intro @Go.Fs.mapA.eq_7 (And.intro @Go.Fs.mapA.eq_8 @Go.Fs.mapA.eq_9))))) (And.intro (And.intro (And.intro (And.intro @Go.Fs.mapA.eq_10 @Go.Fs.mapA.eq_11) (And.intro @Go.Fs.mapA.eq_12 @Go.Fs.mapA.eq_13)) (And.intro (And.intro @Go.Fs.mapA.eq_14 @Go.Fs.mapL.eq_1) (And.intro @Go.Fs.mapL.eq_2 (And.intro @Go.Fs.obM.eq_1 @Go.Fs.obM.eq_2)))) (And.intro (And.intro (And.intro @Go.Fs.mapOb.eq_1 @Go.Fs.mapOb.eq_2) (And.intro @Go.Fs.mapOb.eq_3 @Go.Fs.mapOb.eq_4)) (And.intro (And.intro @Go.Fs.mapOb.eq_5 @Go.Fs.renOK.eq_1) (And.intro @Go.Fs.nodupB.eq_1 (And.intro @Go.Fs.nodupB.eq_2 @Go.Fs.fixAA.eq_1))))))) (And.intro (And.intro (And.intro (And.intro (And.intro (And.intro @Go.Fs.fixAA.eq_2 @Go.Fs.fixA.eq_1) (And.intro @Go.Fs.fixA.eq_2 @Go.Fs.fixA.eq_3)) (And.intro (And.intro @Go.Fs.fixA.eq_4 @Go.Fs.fixA.eq_5) (And.intro @Go.Fs.fixA.eq_6 (And.intro @Go.Fs.noM.eq_1 @Go.Fs.noM.eq_2)))) (And.intro (And.intro (And.intro @Go.Fs.noMc.eq_1 @Go.Fs.noMc.eq_2) (And.intro @Go.Fs.noMc.eq_3 @Go.Fs.noMc.eq_4)) (And.intro (And.intro @Go.Fs.noMc.eq_5 @Go.Fs.noMc.eq_6) (And.intro @Go.Fs.noMc.eq_7 (And.intro @Go.Fs.noMc.eq_8 @Go.Fs.noMc.eq_9))))) (And.intro (And.intro (And.intro (And.intro @Go.Fs.noMo.eq_1 @Go.Fs.noMo.eq_2) (And.intro @Go.Fs.ve0S_stL @Go.Fs.ve0o.eq_1)) (And.intro (And.intro @Go.Fs.ve0o.eq_2 @List.foldl_cons.{0,0}) (And.intro @List.foldl_nil.{0,0} (And.intro @List.lookup_cons.{0,0} @List.lookup_nil.{0,0})))) (And.intro (And.intro (And.intro @List.flatMap_cons.{0,0} @List.flatMap_nil.{0,0}) (And.intro @List.any_nil.{0} @List.any_cons.{0})) (And.intro (And.intro @List.map_cons.{0,0} @List.map_nil.{0,0}) (And.intro @List.all_nil.{0} (And.intro @List.all_cons.{0} @List.contains_cons.{0})))))) (And.intro (And.intro (And.intro (And.intro (And.intro @List.contains_nil.{0} @List.append_nil.{0}) (And.intro @List.nil_append.{0} @List.cons_append.{0})) (And.intro (And.intro @List.getElem?_cons_zero.{0} @List.getElem?_cons_succ.{0}) (And.intro @List.getElem?_nil.{0} (And.intro @List.set_cons_zero.{0} @List.set_cons_succ.{0})))) (And.intro (And.intro (And.intro @Go.Fs.forget_at @Go.Fs.dstsOf.eq_1) (And.intro @Go.Fs.putQ.eq_1 @Go.Fs.gdS.eq_1)) (And.intro (And.intro @Go.Fs.upd_at @if_true.{0}) (And.intro @if_false.{0} (And.intro @Bool.or_false @Bool.or_true))))) (And.intro (And.intro (And.intro (And.intro @Bool.true_or @Bool.false_or) (And.intro @Bool.not_false @Bool.not_true)) (And.intro (And.intro @Bool.false_eq_true @Bool.and_true) (And.intro @Bool.true_and (And.intro @and_true @true_and)))) (And.intro (And.intro (And.intro @Option.bind_some.{0,0} @Option.bind_none.{0,0}) (And.intro @Go.Fs.stL_n @Go.Fs.stL_env)) (And.intro (And.intro @Go.Fs.stL_heap @Go.Fs.envL_cons) (And.intro @Go.Fs.envL_nil (And.intro @Go.Fs.obL_cons @Go.Fs.obL_nil))))))))
end Go.Fs
namespace Go.Fs
open Cel (cel unc)
open Dat (enc dec)
open Arg (ea da)

structure KeepRec where
  name : ByteArray
  src : ByteArray
  faces : (List ByteArray)
  face : ByteArray
  obj : ByteArray
  deriving Inhabited
def uncKeepRec : List D → Option KeepRec
  | [d0, d1, d2, d3, d4] => (dec d0).bind fun x_name => (dec d1).bind fun x_src => (dec d2).bind fun x_faces => (dec d3).bind fun x_face => (dec d4).bind fun x_obj => some ⟨x_name, x_src, x_faces, x_face, x_obj⟩
  | _ => none
instance : Cel KeepRec where
  cel x := [enc x.name, enc x.src, enc x.faces, enc x.face, enc x.obj]
  unc := uncKeepRec
  w := 5
  unc_cel x := by
    obtain ⟨x_name, x_src, x_faces, x_face, x_obj⟩ := x
    simp only [uncKeepRec, Dat.dec_enc, Option.bind_some]
  cel_unc ds x h := by
    unfold uncKeepRec at h
    split at h
    · simp only [Option.bind_eq_some_iff, Option.some.injEq] at h
      obtain ⟨y_name, h_name, y_src, h_src, y_faces, h_faces, y_face, h_face, y_obj, h_obj, rfl⟩ := h
      have k_name := Dat.enc_dec _ _ h_name
      have k_src := Dat.enc_dec _ _ h_src
      have k_faces := Dat.enc_dec _ _ h_faces
      have k_face := Dat.enc_dec _ _ h_face
      have k_obj := Dat.enc_dec _ _ h_obj
      simp only [k_name, k_src, k_faces, k_face, k_obj]
    · cases h
  len x := by simp only [List.length_cons, List.length_nil, List.length_append]
instance : Dat KeepRec := datOf
theorem w_KeepRec : Cel.w KeepRec = 5 := rfl
theorem cel_KeepRec (x : KeepRec) : cel x = [enc x.name, enc x.src, enc x.faces, enc x.face, enc x.obj] := rfl
theorem unc_KeepRec (d0 d1 d2 d3 d4 : D) : unc (α := KeepRec) [d0, d1, d2, d3, d4] = (dec d0).bind fun x_name => (dec d1).bind fun x_src => (dec d2).bind fun x_faces => (dec d3).bind fun x_face => (dec d4).bind fun x_obj => some ⟨x_name, x_src, x_faces, x_face, x_obj⟩ := rfl
theorem enc_KeepRec (x : KeepRec) : enc x = .g (cel x) := rfl
theorem dec_KeepRec (ds : List D) : dec (α := KeepRec) (.g ds) = unc ds := rfl
theorem eta_KeepRec (x : KeepRec) : (⟨x.name, x.src, x.faces, x.face, x.obj⟩ : KeepRec) = x := by cases x; rfl

structure L14In where
  s : ByteArray
  at_ : Int
  bad : Bool
  deriving Inhabited
def uncL14In : List D → Option L14In
  | [d0, d1, d2] => (dec d0).bind fun x_s => (dec d1).bind fun x_at_ => (dec d2).bind fun x_bad => some ⟨x_s, x_at_, x_bad⟩
  | _ => none
instance : Cel L14In where
  cel x := [enc x.s, enc x.at_, enc x.bad]
  unc := uncL14In
  w := 3
  unc_cel x := by
    obtain ⟨x_s, x_at_, x_bad⟩ := x
    simp only [uncL14In, Dat.dec_enc, Option.bind_some]
  cel_unc ds x h := by
    unfold uncL14In at h
    split at h
    · simp only [Option.bind_eq_some_iff, Option.some.injEq] at h
      obtain ⟨y_s, h_s, y_at_, h_at_, y_bad, h_bad, rfl⟩ := h
      have k_s := Dat.enc_dec _ _ h_s
      have k_at_ := Dat.enc_dec _ _ h_at_
      have k_bad := Dat.enc_dec _ _ h_bad
      simp only [k_s, k_at_, k_bad]
    · cases h
  len x := by simp only [List.length_cons, List.length_nil, List.length_append]
instance : Dat L14In := datOf
theorem w_L14In : Cel.w L14In = 3 := rfl
theorem cel_L14In (x : L14In) : cel x = [enc x.s, enc x.at_, enc x.bad] := rfl
theorem unc_L14In (d0 d1 d2 : D) : unc (α := L14In) [d0, d1, d2] = (dec d0).bind fun x_s => (dec d1).bind fun x_at_ => (dec d2).bind fun x_bad => some ⟨x_s, x_at_, x_bad⟩ := rfl
theorem enc_L14In (x : L14In) : enc x = .g (cel x) := rfl
theorem dec_L14In (ds : List D) : dec (α := L14In) (.g ds) = unc ds := rfl
theorem eta_L14In (x : L14In) : (⟨x.s, x.at_, x.bad⟩ : L14In) = x := by cases x; rfl
theorem all_L14In (xs : List L14In) : (xs.map cel).all (fun x => x.all scal) = true := all_scal (fun _ => rfl) xs

structure CodeIns where
  op : Int
  a : Int
  deriving Inhabited
def uncCodeIns : List D → Option CodeIns
  | [d0, d1] => (dec d0).bind fun x_op => (dec d1).bind fun x_a => some ⟨x_op, x_a⟩
  | _ => none
instance : Cel CodeIns where
  cel x := [enc x.op, enc x.a]
  unc := uncCodeIns
  w := 2
  unc_cel x := by
    obtain ⟨x_op, x_a⟩ := x
    simp only [uncCodeIns, Dat.dec_enc, Option.bind_some]
  cel_unc ds x h := by
    unfold uncCodeIns at h
    split at h
    · simp only [Option.bind_eq_some_iff, Option.some.injEq] at h
      obtain ⟨y_op, h_op, y_a, h_a, rfl⟩ := h
      have k_op := Dat.enc_dec _ _ h_op
      have k_a := Dat.enc_dec _ _ h_a
      simp only [k_op, k_a]
    · cases h
  len x := by simp only [List.length_cons, List.length_nil, List.length_append]
instance : Dat CodeIns := datOf
theorem w_CodeIns : Cel.w CodeIns = 2 := rfl
theorem cel_CodeIns (x : CodeIns) : cel x = [enc x.op, enc x.a] := rfl
theorem unc_CodeIns (d0 d1 : D) : unc (α := CodeIns) [d0, d1] = (dec d0).bind fun x_op => (dec d1).bind fun x_a => some ⟨x_op, x_a⟩ := rfl
theorem enc_CodeIns (x : CodeIns) : enc x = .g (cel x) := rfl
theorem dec_CodeIns (ds : List D) : dec (α := CodeIns) (.g ds) = unc ds := rfl
theorem eta_CodeIns (x : CodeIns) : (⟨x.op, x.a⟩ : CodeIns) = x := by cases x; rfl
theorem all_CodeIns (xs : List CodeIns) : (xs.map cel).all (fun x => x.all scal) = true := all_scal (fun _ => rfl) xs

structure FaceSig where
  name : ByteArray
  args : (List Int)
  type : Int
  deriving Inhabited
def uncFaceSig : List D → Option FaceSig
  | [d0, d1, d2] => (dec d0).bind fun x_name => (dec d1).bind fun x_args => (dec d2).bind fun x_type => some ⟨x_name, x_args, x_type⟩
  | _ => none
instance : Cel FaceSig where
  cel x := [enc x.name, enc x.args, enc x.type]
  unc := uncFaceSig
  w := 3
  unc_cel x := by
    obtain ⟨x_name, x_args, x_type⟩ := x
    simp only [uncFaceSig, Dat.dec_enc, Option.bind_some]
  cel_unc ds x h := by
    unfold uncFaceSig at h
    split at h
    · simp only [Option.bind_eq_some_iff, Option.some.injEq] at h
      obtain ⟨y_name, h_name, y_args, h_args, y_type, h_type, rfl⟩ := h
      have k_name := Dat.enc_dec _ _ h_name
      have k_args := Dat.enc_dec _ _ h_args
      have k_type := Dat.enc_dec _ _ h_type
      simp only [k_name, k_args, k_type]
    · cases h
  len x := by simp only [List.length_cons, List.length_nil, List.length_append]
instance : Dat FaceSig := datOf
theorem w_FaceSig : Cel.w FaceSig = 3 := rfl
theorem cel_FaceSig (x : FaceSig) : cel x = [enc x.name, enc x.args, enc x.type] := rfl
theorem unc_FaceSig (d0 d1 d2 : D) : unc (α := FaceSig) [d0, d1, d2] = (dec d0).bind fun x_name => (dec d1).bind fun x_args => (dec d2).bind fun x_type => some ⟨x_name, x_args, x_type⟩ := rfl
theorem enc_FaceSig (x : FaceSig) : enc x = .g (cel x) := rfl
theorem dec_FaceSig (ds : List D) : dec (α := FaceSig) (.g ds) = unc ds := rfl
theorem eta_FaceSig (x : FaceSig) : (⟨x.name, x.args, x.type⟩ : FaceSig) = x := by cases x; rfl

structure CodeRef where
  mod : ByteArray
  name : ByteArray
  deriving Inhabited
def uncCodeRef : List D → Option CodeRef
  | [d0, d1] => (dec d0).bind fun x_mod => (dec d1).bind fun x_name => some ⟨x_mod, x_name⟩
  | _ => none
instance : Cel CodeRef where
  cel x := [enc x.mod, enc x.name]
  unc := uncCodeRef
  w := 2
  unc_cel x := by
    obtain ⟨x_mod, x_name⟩ := x
    simp only [uncCodeRef, Dat.dec_enc, Option.bind_some]
  cel_unc ds x h := by
    unfold uncCodeRef at h
    split at h
    · simp only [Option.bind_eq_some_iff, Option.some.injEq] at h
      obtain ⟨y_mod, h_mod, y_name, h_name, rfl⟩ := h
      have k_mod := Dat.enc_dec _ _ h_mod
      have k_name := Dat.enc_dec _ _ h_name
      simp only [k_mod, k_name]
    · cases h
  len x := by simp only [List.length_cons, List.length_nil, List.length_append]
instance : Dat CodeRef := datOf
theorem w_CodeRef : Cel.w CodeRef = 2 := rfl
theorem cel_CodeRef (x : CodeRef) : cel x = [enc x.mod, enc x.name] := rfl
theorem unc_CodeRef (d0 d1 : D) : unc (α := CodeRef) [d0, d1] = (dec d0).bind fun x_mod => (dec d1).bind fun x_name => some ⟨x_mod, x_name⟩ := rfl
theorem enc_CodeRef (x : CodeRef) : enc x = .g (cel x) := rfl
theorem dec_CodeRef (ds : List D) : dec (α := CodeRef) (.g ds) = unc ds := rfl
theorem eta_CodeRef (x : CodeRef) : (⟨x.mod, x.name⟩ : CodeRef) = x := by cases x; rfl
theorem all_CodeRef (xs : List CodeRef) : (xs.map cel).all (fun x => x.all scal) = true := all_scal (fun _ => rfl) xs

structure CodeFun where
  name : ByteArray
  pub : Bool
  args : (List Int)
  type : Int
  slots : Int
  code : (List CodeIns)
  deriving Inhabited
def uncCodeFun : List D → Option CodeFun
  | [d0, d1, d2, d3, d4, d5] => (dec d0).bind fun x_name => (dec d1).bind fun x_pub => (dec d2).bind fun x_args => (dec d3).bind fun x_type => (dec d4).bind fun x_slots => (dec d5).bind fun x_code => some ⟨x_name, x_pub, x_args, x_type, x_slots, x_code⟩
  | _ => none
instance : Cel CodeFun where
  cel x := [enc x.name, enc x.pub, enc x.args, enc x.type, enc x.slots, enc x.code]
  unc := uncCodeFun
  w := 6
  unc_cel x := by
    obtain ⟨x_name, x_pub, x_args, x_type, x_slots, x_code⟩ := x
    simp only [uncCodeFun, Dat.dec_enc, Option.bind_some]
  cel_unc ds x h := by
    unfold uncCodeFun at h
    split at h
    · simp only [Option.bind_eq_some_iff, Option.some.injEq] at h
      obtain ⟨y_name, h_name, y_pub, h_pub, y_args, h_args, y_type, h_type, y_slots, h_slots, y_code, h_code, rfl⟩ := h
      have k_name := Dat.enc_dec _ _ h_name
      have k_pub := Dat.enc_dec _ _ h_pub
      have k_args := Dat.enc_dec _ _ h_args
      have k_type := Dat.enc_dec _ _ h_type
      have k_slots := Dat.enc_dec _ _ h_slots
      have k_code := Dat.enc_dec _ _ h_code
      simp only [k_name, k_pub, k_args, k_type, k_slots, k_code]
    · cases h
  len x := by simp only [List.length_cons, List.length_nil, List.length_append]
instance : Dat CodeFun := datOf
theorem w_CodeFun : Cel.w CodeFun = 6 := rfl
theorem cel_CodeFun (x : CodeFun) : cel x = [enc x.name, enc x.pub, enc x.args, enc x.type, enc x.slots, enc x.code] := rfl
theorem unc_CodeFun (d0 d1 d2 d3 d4 d5 : D) : unc (α := CodeFun) [d0, d1, d2, d3, d4, d5] = (dec d0).bind fun x_name => (dec d1).bind fun x_pub => (dec d2).bind fun x_args => (dec d3).bind fun x_type => (dec d4).bind fun x_slots => (dec d5).bind fun x_code => some ⟨x_name, x_pub, x_args, x_type, x_slots, x_code⟩ := rfl
theorem enc_CodeFun (x : CodeFun) : enc x = .g (cel x) := rfl
theorem dec_CodeFun (ds : List D) : dec (α := CodeFun) (.g ds) = unc ds := rfl
theorem eta_CodeFun (x : CodeFun) : (⟨x.name, x.pub, x.args, x.type, x.slots, x.code⟩ : CodeFun) = x := by cases x; rfl

structure CodeObj where
  refs : (List CodeRef)
  funs : (List CodeFun)
  deriving Inhabited
def uncCodeObj : List D → Option CodeObj
  | [d0, d1] => (dec d0).bind fun x_refs => (dec d1).bind fun x_funs => some ⟨x_refs, x_funs⟩
  | _ => none
instance : Cel CodeObj where
  cel x := [enc x.refs, enc x.funs]
  unc := uncCodeObj
  w := 2
  unc_cel x := by
    obtain ⟨x_refs, x_funs⟩ := x
    simp only [uncCodeObj, Dat.dec_enc, Option.bind_some]
  cel_unc ds x h := by
    unfold uncCodeObj at h
    split at h
    · simp only [Option.bind_eq_some_iff, Option.some.injEq] at h
      obtain ⟨y_refs, h_refs, y_funs, h_funs, rfl⟩ := h
      have k_refs := Dat.enc_dec _ _ h_refs
      have k_funs := Dat.enc_dec _ _ h_funs
      simp only [k_refs, k_funs]
    · cases h
  len x := by simp only [List.length_cons, List.length_nil, List.length_append]
instance : Dat CodeObj := datOf
theorem w_CodeObj : Cel.w CodeObj = 2 := rfl
theorem cel_CodeObj (x : CodeObj) : cel x = [enc x.refs, enc x.funs] := rfl
theorem unc_CodeObj (d0 d1 : D) : unc (α := CodeObj) [d0, d1] = (dec d0).bind fun x_refs => (dec d1).bind fun x_funs => some ⟨x_refs, x_funs⟩ := rfl
theorem enc_CodeObj (x : CodeObj) : enc x = .g (cel x) := rfl
theorem dec_CodeObj (ds : List D) : dec (α := CodeObj) (.g ds) = unc ds := rfl
theorem eta_CodeObj (x : CodeObj) : (⟨x.refs, x.funs⟩ : CodeObj) = x := by cases x; rfl

structure Unpacker where
  rest : ByteArray
  fail : Bool
  deriving Inhabited
def uncUnpacker : List D → Option Unpacker
  | [d0, d1] => (dec d0).bind fun x_rest => (dec d1).bind fun x_fail => some ⟨x_rest, x_fail⟩
  | _ => none
instance : Cel Unpacker where
  cel x := [enc x.rest, enc x.fail]
  unc := uncUnpacker
  w := 2
  unc_cel x := by
    obtain ⟨x_rest, x_fail⟩ := x
    simp only [uncUnpacker, Dat.dec_enc, Option.bind_some]
  cel_unc ds x h := by
    unfold uncUnpacker at h
    split at h
    · simp only [Option.bind_eq_some_iff, Option.some.injEq] at h
      obtain ⟨y_rest, h_rest, y_fail, h_fail, rfl⟩ := h
      have k_rest := Dat.enc_dec _ _ h_rest
      have k_fail := Dat.enc_dec _ _ h_fail
      simp only [k_rest, k_fail]
    · cases h
  len x := by simp only [List.length_cons, List.length_nil, List.length_append]
instance : Dat Unpacker := datOf
theorem w_Unpacker : Cel.w Unpacker = 2 := rfl
theorem cel_Unpacker (x : Unpacker) : cel x = [enc x.rest, enc x.fail] := rfl
theorem unc_Unpacker (d0 d1 : D) : unc (α := Unpacker) [d0, d1] = (dec d0).bind fun x_rest => (dec d1).bind fun x_fail => some ⟨x_rest, x_fail⟩ := rfl
theorem enc_Unpacker (x : Unpacker) : enc x = .g (cel x) := rfl
theorem dec_Unpacker (ds : List D) : dec (α := Unpacker) (.g ds) = unc ds := rfl
theorem eta_Unpacker (x : Unpacker) : (⟨x.rest, x.fail⟩ : Unpacker) = x := by cases x; rfl
theorem all_Unpacker (xs : List Unpacker) : (xs.map cel).all (fun x => x.all scal) = true := all_scal (fun _ => rfl) xs

def tyS := (And.intro (And.intro (And.intro (And.intro (And.intro @w_KeepRec (And.intro @cel_KeepRec @unc_KeepRec)) (And.intro @enc_KeepRec (And.intro @dec_KeepRec @eta_KeepRec))) (And.intro (And.intro @all_L14In (And.intro @w_L14In @cel_L14In)) (And.intro (And.intro @unc_L14In @enc_L14In) (And.intro @dec_L14In @eta_L14In)))) (And.intro (And.intro (And.intro @all_CodeIns (And.intro @w_CodeIns @cel_CodeIns)) (And.intro @unc_CodeIns (And.intro @enc_CodeIns @dec_CodeIns))) (And.intro (And.intro @eta_CodeIns (And.intro @w_FaceSig @cel_FaceSig)) (And.intro (And.intro @unc_FaceSig @enc_FaceSig) (And.intro @dec_FaceSig @eta_FaceSig))))) (And.intro (And.intro (And.intro (And.intro @all_CodeRef (And.intro @w_CodeRef @cel_CodeRef)) (And.intro @unc_CodeRef (And.intro @enc_CodeRef @dec_CodeRef))) (And.intro (And.intro @eta_CodeRef (And.intro @w_CodeFun @cel_CodeFun)) (And.intro (And.intro @unc_CodeFun @enc_CodeFun) (And.intro @dec_CodeFun @eta_CodeFun)))) (And.intro (And.intro (And.intro @w_CodeObj (And.intro @cel_CodeObj @unc_CodeObj)) (And.intro @enc_CodeObj (And.intro @dec_CodeObj @eta_CodeObj))) (And.intro (And.intro @all_Unpacker (And.intro @w_Unpacker @cel_Unpacker)) (And.intro (And.intro @unc_Unpacker @enc_Unpacker) (And.intro @dec_Unpacker @eta_Unpacker))))))
end Go.Fs
namespace Go.Fs.Se
open Go.Proofs.Tryz (prog)
def tab : Tab := { types := [(1, ⟨1, 8, .ref, [.d .n]⟩),
  (2, ⟨1, 8, (.int .i64), [.d (.i .i64 0)]⟩),
  (3, ⟨1, 8, (.int .i64), [.d (.i .i64 0)]⟩),
  (4, ⟨1, 1, .bool, [.d (.b false)]⟩),
  (5, ⟨1, 1, (.int .u8), [.d (.i .u8 0)]⟩),
  (9, ⟨1, 16, .str, [.d (.s ByteArray.empty)]⟩),
  (12, ⟨1, 8, (.int .u64), [.d (.i .u64 0)]⟩),
  (20, ⟨1, 16, .iface, [.d (.e false)]⟩),
  (21, ⟨1, 4, (.int .i32), [.d (.i .i32 0)]⟩),
  (22, ⟨1, 8, .ref, [.d .n]⟩),
  (23, ⟨1, 8, .ref, [.d .n]⟩),
  (24, ⟨1, 8, .ref, [.d .n]⟩),
  (25, ⟨1, 24, (.slice 32), [.z 5]⟩),
  (27, ⟨1, 8, .ref, [.d .n]⟩),
  (28, ⟨1, 8, .ref, [.d .n]⟩),
  (29, ⟨1, 8, .ref, [.d .n]⟩),
  (30, ⟨1, 24, (.slice 9), [.z 1]⟩),
  (31, ⟨5, 88, (.strct [(0, 9), (1, 9), (2, 30), (3, 9), (4, 9)]), [.d (.s ByteArray.empty), .d (.s ByteArray.empty), .z 1, .d (.s ByteArray.empty), .d (.s ByteArray.empty)]⟩),
  (32, ⟨5, 88, (.strct [(0, 9), (1, 9), (2, 30), (3, 9), (4, 9)]), [.d (.s ByteArray.empty), .d (.s ByteArray.empty), .z 1, .d (.s ByteArray.empty), .d (.s ByteArray.empty)]⟩),
  (33, ⟨1, 8, .ref, [.d .n]⟩),
  (34, ⟨1, 24, (.slice 5), [.z 1]⟩),
  (35, ⟨2, 32, (.strct [(0, 33), (1, 34)]), [.d .n, .z 1]⟩),
  (36, ⟨2, 32, (.strct [(0, 33), (1, 34)]), [.d .n, .z 1]⟩),
  (37, ⟨1, 16, .iface, [.d (.e false)]⟩),
  (38, ⟨1, 16, .iface, [.d (.e false)]⟩),
  (40, ⟨1, 8, .ref, [.d .n]⟩),
  (41, ⟨1, 8, .ref, [.d .n]⟩),
  (42, ⟨1, 24, (.slice 66), [.z 6]⟩),
  (43, ⟨1, 24, (.slice 3), [.z 1]⟩),
  (44, ⟨2, 48, (.strct [(0, 42), (1, 43)]), [.z 6, .z 1]⟩),
  (45, ⟨2, 48, (.strct [(0, 42), (1, 43)]), [.z 6, .z 1]⟩),
  (47, ⟨1, 8, .ref, [.d .n]⟩),
  (48, ⟨3, 24, (.strct [(0, 3), (1, 3), (2, 3)]), [.d (.i .i64 0), .d (.i .i64 0), .d (.i .i64 0)]⟩),
  (49, ⟨3, 24, (.strct [(0, 3), (1, 3), (2, 3)]), [.d (.i .i64 0), .d (.i .i64 0), .d (.i .i64 0)]⟩),
  (50, ⟨1, 8, .ref, [.d .n]⟩),
  (52, ⟨3, 32, (.strct [(0, 9), (1, 3), (2, 4)]), [.d (.s ByteArray.empty), .d (.i .i64 0), .d (.b false)]⟩),
  (53, ⟨3, 32, (.strct [(0, 9), (1, 3), (2, 4)]), [.d (.s ByteArray.empty), .d (.i .i64 0), .d (.b false)]⟩),
  (54, ⟨1, 8, .ref, [.d .n]⟩),
  (55, ⟨1, 8, .ref, [.d .n]⟩),
  (56, ⟨1, 8, .ref, [.d .n]⟩),
  (57, ⟨1, 8, .ref, [.d .n]⟩),
  (58, ⟨1, 8, .ref, [.d .n]⟩),
  (60, ⟨1, 8, .ref, [.d .n]⟩),
  (62, ⟨1, 8, .ref, [.d .n]⟩),
  (63, ⟨1, 8, .ref, [.d .n]⟩),
  (64, ⟨1, 24, (.slice 71), [.z 2]⟩),
  (65, ⟨6, 96, (.strct [(0, 9), (1, 9), (2, 43), (3, 3), (4, 3), (5, 64)]), [.d (.s ByteArray.empty), .d (.s ByteArray.empty), .z 1, .d (.i .i64 0), .d (.i .i64 0), .z 2]⟩),
  (66, ⟨6, 96, (.strct [(0, 9), (1, 9), (2, 43), (3, 3), (4, 3), (5, 64)]), [.d (.s ByteArray.empty), .d (.s ByteArray.empty), .z 1, .d (.i .i64 0), .d (.i .i64 0), .z 2]⟩),
  (67, ⟨1, 8, .ref, [.d .n]⟩),
  (69, ⟨1, 8, .ref, [.d .n]⟩),
  (70, ⟨2, 16, (.strct [(0, 3), (1, 3)]), [.d (.i .i64 0), .d (.i .i64 0)]⟩),
  (71, ⟨2, 16, (.strct [(0, 3), (1, 3)]), [.d (.i .i64 0), .d (.i .i64 0)]⟩),
  (72, ⟨1, 8, .ref, [.d .n]⟩),
  (73, ⟨1, 8, .ref, [.d .n]⟩),
  (74, ⟨1, 8, .ref, [.d .n]⟩),
  (77, ⟨1, 8, .ref, [.d .n]⟩),
  (78, ⟨1, 24, (.slice 117), [.z 3]⟩),
  (79, ⟨10, 176, (.strct [(0, 45), (2, 66), (8, 78), (9, 3)]), [.z 6, .z 1, .d (.s ByteArray.empty), .d (.s ByteArray.empty), .z 1, .d (.i .i64 0), .d (.i .i64 0), .z 2, .z 3, .d (.i .i64 0)]⟩),
  (80, ⟨10, 176, (.strct [(0, 45), (2, 66), (8, 78), (9, 3)]), [.z 6, .z 1, .d (.s ByteArray.empty), .d (.s ByteArray.empty), .z 1, .d (.i .i64 0), .d (.i .i64 0), .z 2, .z 3, .d (.i .i64 0)]⟩),
  (81, ⟨1, 24, (.slice 30), [.z 1]⟩),
  (82, ⟨1, 8, .ref, [.d .n]⟩),
  (84, ⟨1, 8, .ref, [.d .n]⟩),
  (86, ⟨1, 8, .ref, [.d .n]⟩),
  (88, ⟨1, 24, (.slice 160), [.z 1]⟩),
  (90, ⟨1, 8, .ref, [.d .n]⟩),
  (91, ⟨1, 24, (.slice 135), [.z 3]⟩),
  (93, ⟨1, 8, .ref, [.d .n]⟩),
  (94, ⟨1, 24, (.slice 145), [.z 2]⟩),
  (95, ⟨1, 24, (.slice 113), [.z 6]⟩),
  (96, ⟨2, 48, (.strct [(0, 94), (1, 95)]), [.z 2, .z 6]⟩),
  (97, ⟨2, 48, (.strct [(0, 94), (1, 95)]), [.z 2, .z 6]⟩),
  (99, ⟨1, 8, .ref, [.d .n]⟩),
  (100, ⟨1, 8, .ref, [.d .n]⟩),
  (102, ⟨2, 24, (.strct [(0, 9), (1, 4)]), [.d (.s ByteArray.empty), .d (.b false)]⟩),
  (103, ⟨2, 24, (.strct [(0, 9), (1, 4)]), [.d (.s ByteArray.empty), .d (.b false)]⟩),
  (104, ⟨1, 8, .ref, [.d .n]⟩),
  (108, ⟨1, 8, .ref, [.d .n]⟩),
  (109, ⟨1, 8, .ref, [.d .n]⟩),
  (110, ⟨1, 8, .ref, [.d .n]⟩),
  (111, ⟨1, 8, .ref, [.d .n]⟩),
  (112, ⟨6, 88, (.strct [(0, 9), (1, 4), (2, 43), (3, 3), (4, 3), (5, 64)]), [.d (.s ByteArray.empty), .d (.b false), .z 1, .d (.i .i64 0), .d (.i .i64 0), .z 2]⟩),
  (113, ⟨6, 88, (.strct [(0, 9), (1, 4), (2, 43), (3, 3), (4, 3), (5, 64)]), [.d (.s ByteArray.empty), .d (.b false), .z 1, .d (.i .i64 0), .d (.i .i64 0), .z 2]⟩),
  (114, ⟨1, 8, .ref, [.d .n]⟩),
  (115, ⟨1, 8, .ref, [.d .n]⟩),
  (116, ⟨3, 56, (.strct [(0, 4), (1, 43), (2, 43)]), [.d (.b false), .z 1, .z 1]⟩),
  (117, ⟨3, 56, (.strct [(0, 4), (1, 43), (2, 43)]), [.d (.b false), .z 1, .z 1]⟩),
  (118, ⟨1, 8, .ref, [.d .n]⟩),
  (119, ⟨1, 8, .ref, [.d .n]⟩),
  (120, ⟨1, 8, .ref, [.d .n]⟩),
  (121, ⟨10, 160, (.arr 10 9), [.d (.s ByteArray.empty), .d (.s ByteArray.empty), .d (.s ByteArray.empty), .d (.s ByteArray.empty), .d (.s ByteArray.empty), .d (.s ByteArray.empty), .d (.s ByteArray.empty), .d (.s ByteArray.empty), .d (.s ByteArray.empty), .d (.s ByteArray.empty)]⟩),
  (122, ⟨1, 8, .ref, [.d .n]⟩),
  (123, ⟨1, 8, .ref, [.d .n]⟩),
  (124, ⟨1, 8, .ref, [.d .n]⟩),
  (125, ⟨1, 8, .ref, [.d .n]⟩),
  (126, ⟨1, 8, .ref, [.d .n]⟩),
  (127, ⟨1, 8, .ref, [.d .n]⟩),
  (128, ⟨1, 8, .ref, [.d .n]⟩),
  (129, ⟨1, 8, .ref, [.d .n]⟩),
  (131, ⟨5, 88, (.strct [(0, 45), (2, 3), (3, 3), (4, 88)]), [.z 6, .z 1, .d (.i .i64 0), .d (.i .i64 0), .z 1]⟩),
  (132, ⟨5, 88, (.strct [(0, 45), (2, 3), (3, 3), (4, 88)]), [.z 6, .z 1, .d (.i .i64 0), .d (.i .i64 0), .z 1]⟩),
  (134, ⟨3, 48, (.strct [(0, 9), (1, 43), (2, 3)]), [.d (.s ByteArray.empty), .z 1, .d (.i .i64 0)]⟩),
  (135, ⟨3, 48, (.strct [(0, 9), (1, 43), (2, 3)]), [.d (.s ByteArray.empty), .z 1, .d (.i .i64 0)]⟩),
  (136, ⟨1, 8, .ref, [.d .n]⟩),
  (137, ⟨1, 8, .ref, [.d .n]⟩),
  (138, ⟨1, 8, .ref, [.d .n]⟩),
  (139, ⟨1, 8, .ref, [.d .n]⟩),
  (140, ⟨1, 8, .ref, [.d .n]⟩),
  (141, ⟨1, 8, .ref, [.d .n]⟩),
  (142, ⟨1, 8, .ref, [.d .n]⟩),
  (143, ⟨1, 8, .ref, [.d .n]⟩),
  (144, ⟨2, 32, (.strct [(0, 9), (1, 9)]), [.d (.s ByteArray.empty), .d (.s ByteArray.empty)]⟩),
  (145, ⟨2, 32, (.strct [(0, 9), (1, 9)]), [.d (.s ByteArray.empty), .d (.s ByteArray.empty)]⟩),
  (147, ⟨1, 8, .ref, [.d .n]⟩),
  (148, ⟨1, 8, .ref, [.d .n]⟩),
  (149, ⟨1, 8, .ref, [.d .n]⟩),
  (150, ⟨1, 8, .ref, [.d .n]⟩),
  (151, ⟨1, 8, .ref, [.d .n]⟩),
  (152, ⟨1, 8, .ref, [.d .n]⟩),
  (153, ⟨1, 8, .ref, [.d .n]⟩),
  (154, ⟨1, 8, .ref, [.d .n]⟩),
  (155, ⟨1, 8, .ref, [.d .n]⟩),
  (156, ⟨3, 48, (.arr 3 9), [.d (.s ByteArray.empty), .d (.s ByteArray.empty), .d (.s ByteArray.empty)]⟩),
  (157, ⟨1, 8, .ref, [.d .n]⟩),
  (158, ⟨1, 8, .ref, [.d .n]⟩),
  (159, ⟨1, 8, .ref, [.d .n]⟩),
  (160, ⟨1, 8, .ref, [.d .n]⟩),
  (161, ⟨1, 8, .ref, [.d .n]⟩),
  (162, ⟨2, 48, (.strct [(0, 43), (1, 43)]), [.z 1, .z 1]⟩),
  (163, ⟨2, 48, (.strct [(0, 43), (1, 43)]), [.z 1, .z 1]⟩),
  (164, ⟨1, 8, .ref, [.d .n]⟩),
  (165, ⟨1, 8, .ref, [.d .n]⟩),
  (166, ⟨1, 8, .ref, [.d .n]⟩),
  (167, ⟨1, 8, .ref, [.d .n]⟩),
  (168, ⟨1, 8, .ref, [.d .n]⟩),
  (169, ⟨1, 8, .ref, [.d .n]⟩),
  (170, ⟨1, 8, .ref, [.d .n]⟩),
  (172, ⟨1, 8, .ref, [.d .n]⟩),
  (173, ⟨1, 8, .ref, [.d .n]⟩),
  (174, ⟨1, 8, .ref, [.d .n]⟩),
  (175, ⟨1, 8, .ref, [.d .n]⟩),
  (176, ⟨1, 8, .ref, [.d .n]⟩),
  (177, ⟨1, 8, (.int .i64), [.d (.i .i64 0)]⟩),
  (179, ⟨1, 8, .ref, [.d .n]⟩),
  (181, ⟨1, 8, .ref, [.d .n]⟩),
  (182, ⟨1, 8, .ref, [.d .n]⟩),
  (183, ⟨1, 8, .ref, [.d .n]⟩),
  (184, ⟨1, 8, (.int .u64), [.d (.i .u64 0)]⟩),
  (185, ⟨1, 8, .ref, [.d .n]⟩),
  (186, ⟨1, 24, (.slice 43), [.z 1]⟩),
  (187, ⟨1, 8, .ref, [.d .n]⟩),
  (188, ⟨1, 8, .ref, [.d .n]⟩),
  (189, ⟨1, 8, .ref, [.d .n]⟩),
  (190, ⟨14, 224, (.arr 14 9), [.d (.s ByteArray.empty), .d (.s ByteArray.empty), .d (.s ByteArray.empty), .d (.s ByteArray.empty), .d (.s ByteArray.empty), .d (.s ByteArray.empty), .d (.s ByteArray.empty), .d (.s ByteArray.empty), .d (.s ByteArray.empty), .d (.s ByteArray.empty), .d (.s ByteArray.empty), .d (.s ByteArray.empty), .d (.s ByteArray.empty), .d (.s ByteArray.empty)]⟩),
  (191, ⟨1, 8, .ref, [.d .n]⟩),
  (192, ⟨1, 8, .ref, [.d .n]⟩),
  (193, ⟨1, 8, .ref, [.d .n]⟩),
  (194, ⟨1, 8, .ref, [.d .n]⟩),
  (195, ⟨1, 8, .ref, [.d .n]⟩),
  (196, ⟨1, 8, .ref, [.d .n]⟩),
  (198, ⟨1, 8, (.int .u64), [.d (.i .u64 0)]⟩),
  (199, ⟨1, 8, .ref, [.d .n]⟩),
  (200, ⟨1, 8, .ref, [.d .n]⟩),
  (202, ⟨1, 8, .ref, [.d .n]⟩),
  (204, ⟨1, 8, .ref, [.d .n]⟩),
  (206, ⟨1, 8, .ref, [.d .n]⟩),
  (207, ⟨3, 48, (.strct [(0, 9), (1, 9), (2, 38)]), [.d (.s ByteArray.empty), .d (.s ByteArray.empty), .d (.e false)]⟩),
  (208, ⟨3, 48, (.strct [(0, 9), (1, 9), (2, 38)]), [.d (.s ByteArray.empty), .d (.s ByteArray.empty), .d (.e false)]⟩),
  (209, ⟨1, 8, .ref, [.d .n]⟩),
  (210, ⟨1, 4, (.int .u32), [.d (.i .u32 0)]⟩),
  (212, ⟨1, 8, .ref, [.d .n]⟩),
  (213, ⟨1, 8, .ref, [.d .n]⟩),
  (214, ⟨1, 8, .ref, [.d .n]⟩),
  (215, ⟨1, 8, .ref, [.d .n]⟩),
  (217, ⟨1, 8, .ref, [.d .n]⟩),
  (218, ⟨1, 8, .ref, [.d .n]⟩),
  (219, ⟨1, 8, .ref, [.d .n]⟩),
  (220, ⟨1, 8, .ref, [.d .n]⟩),
  (221, ⟨20, 160, (.arr 20 198), [.d (.i .u64 0), .d (.i .u64 0), .d (.i .u64 0), .d (.i .u64 0), .d (.i .u64 0), .d (.i .u64 0), .d (.i .u64 0), .d (.i .u64 0), .d (.i .u64 0), .d (.i .u64 0), .d (.i .u64 0), .d (.i .u64 0), .d (.i .u64 0), .d (.i .u64 0), .d (.i .u64 0), .d (.i .u64 0), .d (.i .u64 0), .d (.i .u64 0), .d (.i .u64 0), .d (.i .u64 0)]⟩),
  (223, ⟨1, 8, .ref, [.d .n]⟩),
  (224, ⟨1, 8, .ref, [.d .n]⟩),
  (226, ⟨1, 16, (.strct [(0, 9)]), [.d (.s ByteArray.empty)]⟩),
  (227, ⟨1, 16, (.strct [(0, 9)]), [.d (.s ByteArray.empty)]⟩),
  (228, ⟨1, 8, .ref, [.d .n]⟩),
  (230, ⟨1, 8, .ref, [.d .n]⟩),
  (231, ⟨1, 8, .ref, [.d .n]⟩),
  (233, ⟨2, 2, (.strct [(0, 5), (1, 5)]), [.d (.i .u8 0), .d (.i .u8 0)]⟩),
  (234, ⟨2, 2, (.strct [(0, 5), (1, 5)]), [.d (.i .u8 0), .d (.i .u8 0)]⟩),
  (235, ⟨32, 32, (.arr 16 234), [.d (.i .u8 0), .d (.i .u8 0), .d (.i .u8 0), .d (.i .u8 0), .d (.i .u8 0), .d (.i .u8 0), .d (.i .u8 0), .d (.i .u8 0), .d (.i .u8 0), .d (.i .u8 0), .d (.i .u8 0), .d (.i .u8 0), .d (.i .u8 0), .d (.i .u8 0), .d (.i .u8 0), .d (.i .u8 0), .d (.i .u8 0), .d (.i .u8 0), .d (.i .u8 0), .d (.i .u8 0), .d (.i .u8 0), .d (.i .u8 0), .d (.i .u8 0), .d (.i .u8 0), .d (.i .u8 0), .d (.i .u8 0), .d (.i .u8 0), .d (.i .u8 0), .d (.i .u8 0), .d (.i .u8 0), .d (.i .u8 0), .d (.i .u8 0)]⟩),
  (236, ⟨1, 8, .ref, [.d .n]⟩),
  (244, ⟨1, 8, .ref, [.d .n]⟩)], bld := true, maps := [(105, 9, 3, (.i .i64 0))] }
theorem tab_ok : tab.ok Go.Proofs.Tryz.prog = true := by decide +kernel
theorem ti1 : tab.ti 1 = some ⟨1, 8, .ref, [.d .n]⟩ := rfl
theorem kd1 : tab.kd 1 = some .ref := rfl
theorem ti2 : tab.ti 2 = some ⟨1, 8, (.int .i64), [.d (.i .i64 0)]⟩ := rfl
theorem kd2 : tab.kd 2 = some (.int .i64) := rfl
theorem ti3 : tab.ti 3 = some ⟨1, 8, (.int .i64), [.d (.i .i64 0)]⟩ := rfl
theorem kd3 : tab.kd 3 = some (.int .i64) := rfl
theorem ti4 : tab.ti 4 = some ⟨1, 1, .bool, [.d (.b false)]⟩ := rfl
theorem kd4 : tab.kd 4 = some .bool := rfl
theorem ti5 : tab.ti 5 = some ⟨1, 1, (.int .u8), [.d (.i .u8 0)]⟩ := rfl
theorem kd5 : tab.kd 5 = some (.int .u8) := rfl
theorem ti9 : tab.ti 9 = some ⟨1, 16, .str, [.d (.s ByteArray.empty)]⟩ := rfl
theorem kd9 : tab.kd 9 = some .str := rfl
theorem ti12 : tab.ti 12 = some ⟨1, 8, (.int .u64), [.d (.i .u64 0)]⟩ := rfl
theorem kd12 : tab.kd 12 = some (.int .u64) := rfl
theorem ti20 : tab.ti 20 = some ⟨1, 16, .iface, [.d (.e false)]⟩ := rfl
theorem kd20 : tab.kd 20 = some .iface := rfl
theorem ti21 : tab.ti 21 = some ⟨1, 4, (.int .i32), [.d (.i .i32 0)]⟩ := rfl
theorem kd21 : tab.kd 21 = some (.int .i32) := rfl
theorem ti22 : tab.ti 22 = some ⟨1, 8, .ref, [.d .n]⟩ := rfl
theorem kd22 : tab.kd 22 = some .ref := rfl
theorem ti23 : tab.ti 23 = some ⟨1, 8, .ref, [.d .n]⟩ := rfl
theorem kd23 : tab.kd 23 = some .ref := rfl
theorem ti24 : tab.ti 24 = some ⟨1, 8, .ref, [.d .n]⟩ := rfl
theorem kd24 : tab.kd 24 = some .ref := rfl
theorem ti25 : tab.ti 25 = some ⟨1, 24, (.slice 32), [.z 5]⟩ := rfl
theorem kd25 : tab.kd 25 = some (.slice 32) := rfl
theorem ti27 : tab.ti 27 = some ⟨1, 8, .ref, [.d .n]⟩ := rfl
theorem kd27 : tab.kd 27 = some .ref := rfl
theorem ti28 : tab.ti 28 = some ⟨1, 8, .ref, [.d .n]⟩ := rfl
theorem kd28 : tab.kd 28 = some .ref := rfl
theorem ti29 : tab.ti 29 = some ⟨1, 8, .ref, [.d .n]⟩ := rfl
theorem kd29 : tab.kd 29 = some .ref := rfl
theorem ti30 : tab.ti 30 = some ⟨1, 24, (.slice 9), [.z 1]⟩ := rfl
theorem kd30 : tab.kd 30 = some (.slice 9) := rfl
theorem ti31 : tab.ti 31 = some ⟨5, 88, (.strct [(0, 9), (1, 9), (2, 30), (3, 9), (4, 9)]), [.d (.s ByteArray.empty), .d (.s ByteArray.empty), .z 1, .d (.s ByteArray.empty), .d (.s ByteArray.empty)]⟩ := rfl
theorem kd31 : tab.kd 31 = some (.strct [(0, 9), (1, 9), (2, 30), (3, 9), (4, 9)]) := rfl
theorem ti32 : tab.ti 32 = some ⟨5, 88, (.strct [(0, 9), (1, 9), (2, 30), (3, 9), (4, 9)]), [.d (.s ByteArray.empty), .d (.s ByteArray.empty), .z 1, .d (.s ByteArray.empty), .d (.s ByteArray.empty)]⟩ := rfl
theorem kd32 : tab.kd 32 = some (.strct [(0, 9), (1, 9), (2, 30), (3, 9), (4, 9)]) := rfl
theorem ti33 : tab.ti 33 = some ⟨1, 8, .ref, [.d .n]⟩ := rfl
theorem kd33 : tab.kd 33 = some .ref := rfl
theorem ti34 : tab.ti 34 = some ⟨1, 24, (.slice 5), [.z 1]⟩ := rfl
theorem kd34 : tab.kd 34 = some (.slice 5) := rfl
theorem ti35 : tab.ti 35 = some ⟨2, 32, (.strct [(0, 33), (1, 34)]), [.d .n, .z 1]⟩ := rfl
theorem kd35 : tab.kd 35 = some (.strct [(0, 33), (1, 34)]) := rfl
theorem ti36 : tab.ti 36 = some ⟨2, 32, (.strct [(0, 33), (1, 34)]), [.d .n, .z 1]⟩ := rfl
theorem kd36 : tab.kd 36 = some (.strct [(0, 33), (1, 34)]) := rfl
theorem ti37 : tab.ti 37 = some ⟨1, 16, .iface, [.d (.e false)]⟩ := rfl
theorem kd37 : tab.kd 37 = some .iface := rfl
theorem ti38 : tab.ti 38 = some ⟨1, 16, .iface, [.d (.e false)]⟩ := rfl
theorem kd38 : tab.kd 38 = some .iface := rfl
theorem ti40 : tab.ti 40 = some ⟨1, 8, .ref, [.d .n]⟩ := rfl
theorem kd40 : tab.kd 40 = some .ref := rfl
theorem ti41 : tab.ti 41 = some ⟨1, 8, .ref, [.d .n]⟩ := rfl
theorem kd41 : tab.kd 41 = some .ref := rfl
theorem ti42 : tab.ti 42 = some ⟨1, 24, (.slice 66), [.z 6]⟩ := rfl
theorem kd42 : tab.kd 42 = some (.slice 66) := rfl
theorem ti43 : tab.ti 43 = some ⟨1, 24, (.slice 3), [.z 1]⟩ := rfl
theorem kd43 : tab.kd 43 = some (.slice 3) := rfl
theorem ti44 : tab.ti 44 = some ⟨2, 48, (.strct [(0, 42), (1, 43)]), [.z 6, .z 1]⟩ := rfl
theorem kd44 : tab.kd 44 = some (.strct [(0, 42), (1, 43)]) := rfl
theorem ti45 : tab.ti 45 = some ⟨2, 48, (.strct [(0, 42), (1, 43)]), [.z 6, .z 1]⟩ := rfl
theorem kd45 : tab.kd 45 = some (.strct [(0, 42), (1, 43)]) := rfl
theorem ti47 : tab.ti 47 = some ⟨1, 8, .ref, [.d .n]⟩ := rfl
theorem kd47 : tab.kd 47 = some .ref := rfl
theorem ti48 : tab.ti 48 = some ⟨3, 24, (.strct [(0, 3), (1, 3), (2, 3)]), [.d (.i .i64 0), .d (.i .i64 0), .d (.i .i64 0)]⟩ := rfl
theorem kd48 : tab.kd 48 = some (.strct [(0, 3), (1, 3), (2, 3)]) := rfl
theorem ti49 : tab.ti 49 = some ⟨3, 24, (.strct [(0, 3), (1, 3), (2, 3)]), [.d (.i .i64 0), .d (.i .i64 0), .d (.i .i64 0)]⟩ := rfl
theorem kd49 : tab.kd 49 = some (.strct [(0, 3), (1, 3), (2, 3)]) := rfl
theorem ti50 : tab.ti 50 = some ⟨1, 8, .ref, [.d .n]⟩ := rfl
theorem kd50 : tab.kd 50 = some .ref := rfl
theorem ti52 : tab.ti 52 = some ⟨3, 32, (.strct [(0, 9), (1, 3), (2, 4)]), [.d (.s ByteArray.empty), .d (.i .i64 0), .d (.b false)]⟩ := rfl
theorem kd52 : tab.kd 52 = some (.strct [(0, 9), (1, 3), (2, 4)]) := rfl
theorem ti53 : tab.ti 53 = some ⟨3, 32, (.strct [(0, 9), (1, 3), (2, 4)]), [.d (.s ByteArray.empty), .d (.i .i64 0), .d (.b false)]⟩ := rfl
theorem kd53 : tab.kd 53 = some (.strct [(0, 9), (1, 3), (2, 4)]) := rfl
theorem ti54 : tab.ti 54 = some ⟨1, 8, .ref, [.d .n]⟩ := rfl
theorem kd54 : tab.kd 54 = some .ref := rfl
theorem ti55 : tab.ti 55 = some ⟨1, 8, .ref, [.d .n]⟩ := rfl
theorem kd55 : tab.kd 55 = some .ref := rfl
theorem ti56 : tab.ti 56 = some ⟨1, 8, .ref, [.d .n]⟩ := rfl
theorem kd56 : tab.kd 56 = some .ref := rfl
theorem ti57 : tab.ti 57 = some ⟨1, 8, .ref, [.d .n]⟩ := rfl
theorem kd57 : tab.kd 57 = some .ref := rfl
theorem ti58 : tab.ti 58 = some ⟨1, 8, .ref, [.d .n]⟩ := rfl
theorem kd58 : tab.kd 58 = some .ref := rfl
theorem ti60 : tab.ti 60 = some ⟨1, 8, .ref, [.d .n]⟩ := rfl
theorem kd60 : tab.kd 60 = some .ref := rfl
theorem ti62 : tab.ti 62 = some ⟨1, 8, .ref, [.d .n]⟩ := rfl
theorem kd62 : tab.kd 62 = some .ref := rfl
theorem ti63 : tab.ti 63 = some ⟨1, 8, .ref, [.d .n]⟩ := rfl
theorem kd63 : tab.kd 63 = some .ref := rfl
theorem ti64 : tab.ti 64 = some ⟨1, 24, (.slice 71), [.z 2]⟩ := rfl
theorem kd64 : tab.kd 64 = some (.slice 71) := rfl
theorem ti65 : tab.ti 65 = some ⟨6, 96, (.strct [(0, 9), (1, 9), (2, 43), (3, 3), (4, 3), (5, 64)]), [.d (.s ByteArray.empty), .d (.s ByteArray.empty), .z 1, .d (.i .i64 0), .d (.i .i64 0), .z 2]⟩ := rfl
theorem kd65 : tab.kd 65 = some (.strct [(0, 9), (1, 9), (2, 43), (3, 3), (4, 3), (5, 64)]) := rfl
theorem ti66 : tab.ti 66 = some ⟨6, 96, (.strct [(0, 9), (1, 9), (2, 43), (3, 3), (4, 3), (5, 64)]), [.d (.s ByteArray.empty), .d (.s ByteArray.empty), .z 1, .d (.i .i64 0), .d (.i .i64 0), .z 2]⟩ := rfl
theorem kd66 : tab.kd 66 = some (.strct [(0, 9), (1, 9), (2, 43), (3, 3), (4, 3), (5, 64)]) := rfl
theorem ti67 : tab.ti 67 = some ⟨1, 8, .ref, [.d .n]⟩ := rfl
theorem kd67 : tab.kd 67 = some .ref := rfl
theorem ti69 : tab.ti 69 = some ⟨1, 8, .ref, [.d .n]⟩ := rfl
theorem kd69 : tab.kd 69 = some .ref := rfl
theorem ti70 : tab.ti 70 = some ⟨2, 16, (.strct [(0, 3), (1, 3)]), [.d (.i .i64 0), .d (.i .i64 0)]⟩ := rfl
theorem kd70 : tab.kd 70 = some (.strct [(0, 3), (1, 3)]) := rfl
theorem ti71 : tab.ti 71 = some ⟨2, 16, (.strct [(0, 3), (1, 3)]), [.d (.i .i64 0), .d (.i .i64 0)]⟩ := rfl
theorem kd71 : tab.kd 71 = some (.strct [(0, 3), (1, 3)]) := rfl
theorem ti72 : tab.ti 72 = some ⟨1, 8, .ref, [.d .n]⟩ := rfl
theorem kd72 : tab.kd 72 = some .ref := rfl
theorem ti73 : tab.ti 73 = some ⟨1, 8, .ref, [.d .n]⟩ := rfl
theorem kd73 : tab.kd 73 = some .ref := rfl
theorem ti74 : tab.ti 74 = some ⟨1, 8, .ref, [.d .n]⟩ := rfl
theorem kd74 : tab.kd 74 = some .ref := rfl
theorem ti77 : tab.ti 77 = some ⟨1, 8, .ref, [.d .n]⟩ := rfl
theorem kd77 : tab.kd 77 = some .ref := rfl
theorem ti78 : tab.ti 78 = some ⟨1, 24, (.slice 117), [.z 3]⟩ := rfl
theorem kd78 : tab.kd 78 = some (.slice 117) := rfl
theorem ti79 : tab.ti 79 = some ⟨10, 176, (.strct [(0, 45), (2, 66), (8, 78), (9, 3)]), [.z 6, .z 1, .d (.s ByteArray.empty), .d (.s ByteArray.empty), .z 1, .d (.i .i64 0), .d (.i .i64 0), .z 2, .z 3, .d (.i .i64 0)]⟩ := rfl
theorem kd79 : tab.kd 79 = some (.strct [(0, 45), (2, 66), (8, 78), (9, 3)]) := rfl
theorem ti80 : tab.ti 80 = some ⟨10, 176, (.strct [(0, 45), (2, 66), (8, 78), (9, 3)]), [.z 6, .z 1, .d (.s ByteArray.empty), .d (.s ByteArray.empty), .z 1, .d (.i .i64 0), .d (.i .i64 0), .z 2, .z 3, .d (.i .i64 0)]⟩ := rfl
theorem kd80 : tab.kd 80 = some (.strct [(0, 45), (2, 66), (8, 78), (9, 3)]) := rfl
theorem ti81 : tab.ti 81 = some ⟨1, 24, (.slice 30), [.z 1]⟩ := rfl
theorem kd81 : tab.kd 81 = some (.slice 30) := rfl
theorem ti82 : tab.ti 82 = some ⟨1, 8, .ref, [.d .n]⟩ := rfl
theorem kd82 : tab.kd 82 = some .ref := rfl
theorem ti84 : tab.ti 84 = some ⟨1, 8, .ref, [.d .n]⟩ := rfl
theorem kd84 : tab.kd 84 = some .ref := rfl
theorem ti86 : tab.ti 86 = some ⟨1, 8, .ref, [.d .n]⟩ := rfl
theorem kd86 : tab.kd 86 = some .ref := rfl
theorem ti88 : tab.ti 88 = some ⟨1, 24, (.slice 160), [.z 1]⟩ := rfl
theorem kd88 : tab.kd 88 = some (.slice 160) := rfl
theorem ti90 : tab.ti 90 = some ⟨1, 8, .ref, [.d .n]⟩ := rfl
theorem kd90 : tab.kd 90 = some .ref := rfl
theorem ti91 : tab.ti 91 = some ⟨1, 24, (.slice 135), [.z 3]⟩ := rfl
theorem kd91 : tab.kd 91 = some (.slice 135) := rfl
theorem ti93 : tab.ti 93 = some ⟨1, 8, .ref, [.d .n]⟩ := rfl
theorem kd93 : tab.kd 93 = some .ref := rfl
theorem ti94 : tab.ti 94 = some ⟨1, 24, (.slice 145), [.z 2]⟩ := rfl
theorem kd94 : tab.kd 94 = some (.slice 145) := rfl
theorem ti95 : tab.ti 95 = some ⟨1, 24, (.slice 113), [.z 6]⟩ := rfl
theorem kd95 : tab.kd 95 = some (.slice 113) := rfl
theorem ti96 : tab.ti 96 = some ⟨2, 48, (.strct [(0, 94), (1, 95)]), [.z 2, .z 6]⟩ := rfl
theorem kd96 : tab.kd 96 = some (.strct [(0, 94), (1, 95)]) := rfl
theorem ti97 : tab.ti 97 = some ⟨2, 48, (.strct [(0, 94), (1, 95)]), [.z 2, .z 6]⟩ := rfl
theorem kd97 : tab.kd 97 = some (.strct [(0, 94), (1, 95)]) := rfl
theorem ti99 : tab.ti 99 = some ⟨1, 8, .ref, [.d .n]⟩ := rfl
theorem kd99 : tab.kd 99 = some .ref := rfl
theorem ti100 : tab.ti 100 = some ⟨1, 8, .ref, [.d .n]⟩ := rfl
theorem kd100 : tab.kd 100 = some .ref := rfl
theorem ti102 : tab.ti 102 = some ⟨2, 24, (.strct [(0, 9), (1, 4)]), [.d (.s ByteArray.empty), .d (.b false)]⟩ := rfl
theorem kd102 : tab.kd 102 = some (.strct [(0, 9), (1, 4)]) := rfl
theorem ti103 : tab.ti 103 = some ⟨2, 24, (.strct [(0, 9), (1, 4)]), [.d (.s ByteArray.empty), .d (.b false)]⟩ := rfl
theorem kd103 : tab.kd 103 = some (.strct [(0, 9), (1, 4)]) := rfl
theorem ti104 : tab.ti 104 = some ⟨1, 8, .ref, [.d .n]⟩ := rfl
theorem kd104 : tab.kd 104 = some .ref := rfl
theorem ti108 : tab.ti 108 = some ⟨1, 8, .ref, [.d .n]⟩ := rfl
theorem kd108 : tab.kd 108 = some .ref := rfl
theorem ti109 : tab.ti 109 = some ⟨1, 8, .ref, [.d .n]⟩ := rfl
theorem kd109 : tab.kd 109 = some .ref := rfl
theorem ti110 : tab.ti 110 = some ⟨1, 8, .ref, [.d .n]⟩ := rfl
theorem kd110 : tab.kd 110 = some .ref := rfl
theorem ti111 : tab.ti 111 = some ⟨1, 8, .ref, [.d .n]⟩ := rfl
theorem kd111 : tab.kd 111 = some .ref := rfl
theorem ti112 : tab.ti 112 = some ⟨6, 88, (.strct [(0, 9), (1, 4), (2, 43), (3, 3), (4, 3), (5, 64)]), [.d (.s ByteArray.empty), .d (.b false), .z 1, .d (.i .i64 0), .d (.i .i64 0), .z 2]⟩ := rfl
theorem kd112 : tab.kd 112 = some (.strct [(0, 9), (1, 4), (2, 43), (3, 3), (4, 3), (5, 64)]) := rfl
theorem ti113 : tab.ti 113 = some ⟨6, 88, (.strct [(0, 9), (1, 4), (2, 43), (3, 3), (4, 3), (5, 64)]), [.d (.s ByteArray.empty), .d (.b false), .z 1, .d (.i .i64 0), .d (.i .i64 0), .z 2]⟩ := rfl
theorem kd113 : tab.kd 113 = some (.strct [(0, 9), (1, 4), (2, 43), (3, 3), (4, 3), (5, 64)]) := rfl
theorem ti114 : tab.ti 114 = some ⟨1, 8, .ref, [.d .n]⟩ := rfl
theorem kd114 : tab.kd 114 = some .ref := rfl
theorem ti115 : tab.ti 115 = some ⟨1, 8, .ref, [.d .n]⟩ := rfl
theorem kd115 : tab.kd 115 = some .ref := rfl
theorem ti116 : tab.ti 116 = some ⟨3, 56, (.strct [(0, 4), (1, 43), (2, 43)]), [.d (.b false), .z 1, .z 1]⟩ := rfl
theorem kd116 : tab.kd 116 = some (.strct [(0, 4), (1, 43), (2, 43)]) := rfl
theorem ti117 : tab.ti 117 = some ⟨3, 56, (.strct [(0, 4), (1, 43), (2, 43)]), [.d (.b false), .z 1, .z 1]⟩ := rfl
theorem kd117 : tab.kd 117 = some (.strct [(0, 4), (1, 43), (2, 43)]) := rfl
theorem ti118 : tab.ti 118 = some ⟨1, 8, .ref, [.d .n]⟩ := rfl
theorem kd118 : tab.kd 118 = some .ref := rfl
theorem ti119 : tab.ti 119 = some ⟨1, 8, .ref, [.d .n]⟩ := rfl
theorem kd119 : tab.kd 119 = some .ref := rfl
theorem ti120 : tab.ti 120 = some ⟨1, 8, .ref, [.d .n]⟩ := rfl
theorem kd120 : tab.kd 120 = some .ref := rfl
theorem ti121 : tab.ti 121 = some ⟨10, 160, (.arr 10 9), [.d (.s ByteArray.empty), .d (.s ByteArray.empty), .d (.s ByteArray.empty), .d (.s ByteArray.empty), .d (.s ByteArray.empty), .d (.s ByteArray.empty), .d (.s ByteArray.empty), .d (.s ByteArray.empty), .d (.s ByteArray.empty), .d (.s ByteArray.empty)]⟩ := rfl
theorem kd121 : tab.kd 121 = some (.arr 10 9) := rfl
theorem ti122 : tab.ti 122 = some ⟨1, 8, .ref, [.d .n]⟩ := rfl
theorem kd122 : tab.kd 122 = some .ref := rfl
theorem ti123 : tab.ti 123 = some ⟨1, 8, .ref, [.d .n]⟩ := rfl
theorem kd123 : tab.kd 123 = some .ref := rfl
theorem ti124 : tab.ti 124 = some ⟨1, 8, .ref, [.d .n]⟩ := rfl
theorem kd124 : tab.kd 124 = some .ref := rfl
theorem ti125 : tab.ti 125 = some ⟨1, 8, .ref, [.d .n]⟩ := rfl
theorem kd125 : tab.kd 125 = some .ref := rfl
theorem ti126 : tab.ti 126 = some ⟨1, 8, .ref, [.d .n]⟩ := rfl
theorem kd126 : tab.kd 126 = some .ref := rfl
theorem ti127 : tab.ti 127 = some ⟨1, 8, .ref, [.d .n]⟩ := rfl
theorem kd127 : tab.kd 127 = some .ref := rfl
theorem ti128 : tab.ti 128 = some ⟨1, 8, .ref, [.d .n]⟩ := rfl
theorem kd128 : tab.kd 128 = some .ref := rfl
theorem ti129 : tab.ti 129 = some ⟨1, 8, .ref, [.d .n]⟩ := rfl
theorem kd129 : tab.kd 129 = some .ref := rfl
theorem ti131 : tab.ti 131 = some ⟨5, 88, (.strct [(0, 45), (2, 3), (3, 3), (4, 88)]), [.z 6, .z 1, .d (.i .i64 0), .d (.i .i64 0), .z 1]⟩ := rfl
theorem kd131 : tab.kd 131 = some (.strct [(0, 45), (2, 3), (3, 3), (4, 88)]) := rfl
theorem ti132 : tab.ti 132 = some ⟨5, 88, (.strct [(0, 45), (2, 3), (3, 3), (4, 88)]), [.z 6, .z 1, .d (.i .i64 0), .d (.i .i64 0), .z 1]⟩ := rfl
theorem kd132 : tab.kd 132 = some (.strct [(0, 45), (2, 3), (3, 3), (4, 88)]) := rfl
theorem ti134 : tab.ti 134 = some ⟨3, 48, (.strct [(0, 9), (1, 43), (2, 3)]), [.d (.s ByteArray.empty), .z 1, .d (.i .i64 0)]⟩ := rfl
theorem kd134 : tab.kd 134 = some (.strct [(0, 9), (1, 43), (2, 3)]) := rfl
theorem ti135 : tab.ti 135 = some ⟨3, 48, (.strct [(0, 9), (1, 43), (2, 3)]), [.d (.s ByteArray.empty), .z 1, .d (.i .i64 0)]⟩ := rfl
theorem kd135 : tab.kd 135 = some (.strct [(0, 9), (1, 43), (2, 3)]) := rfl
theorem ti136 : tab.ti 136 = some ⟨1, 8, .ref, [.d .n]⟩ := rfl
theorem kd136 : tab.kd 136 = some .ref := rfl
theorem ti137 : tab.ti 137 = some ⟨1, 8, .ref, [.d .n]⟩ := rfl
theorem kd137 : tab.kd 137 = some .ref := rfl
theorem ti138 : tab.ti 138 = some ⟨1, 8, .ref, [.d .n]⟩ := rfl
theorem kd138 : tab.kd 138 = some .ref := rfl
theorem ti139 : tab.ti 139 = some ⟨1, 8, .ref, [.d .n]⟩ := rfl
theorem kd139 : tab.kd 139 = some .ref := rfl
theorem ti140 : tab.ti 140 = some ⟨1, 8, .ref, [.d .n]⟩ := rfl
theorem kd140 : tab.kd 140 = some .ref := rfl
theorem ti141 : tab.ti 141 = some ⟨1, 8, .ref, [.d .n]⟩ := rfl
theorem kd141 : tab.kd 141 = some .ref := rfl
theorem ti142 : tab.ti 142 = some ⟨1, 8, .ref, [.d .n]⟩ := rfl
theorem kd142 : tab.kd 142 = some .ref := rfl
theorem ti143 : tab.ti 143 = some ⟨1, 8, .ref, [.d .n]⟩ := rfl
theorem kd143 : tab.kd 143 = some .ref := rfl
theorem ti144 : tab.ti 144 = some ⟨2, 32, (.strct [(0, 9), (1, 9)]), [.d (.s ByteArray.empty), .d (.s ByteArray.empty)]⟩ := rfl
theorem kd144 : tab.kd 144 = some (.strct [(0, 9), (1, 9)]) := rfl
theorem ti145 : tab.ti 145 = some ⟨2, 32, (.strct [(0, 9), (1, 9)]), [.d (.s ByteArray.empty), .d (.s ByteArray.empty)]⟩ := rfl
theorem kd145 : tab.kd 145 = some (.strct [(0, 9), (1, 9)]) := rfl
theorem ti147 : tab.ti 147 = some ⟨1, 8, .ref, [.d .n]⟩ := rfl
theorem kd147 : tab.kd 147 = some .ref := rfl
theorem ti148 : tab.ti 148 = some ⟨1, 8, .ref, [.d .n]⟩ := rfl
theorem kd148 : tab.kd 148 = some .ref := rfl
theorem ti149 : tab.ti 149 = some ⟨1, 8, .ref, [.d .n]⟩ := rfl
theorem kd149 : tab.kd 149 = some .ref := rfl
theorem ti150 : tab.ti 150 = some ⟨1, 8, .ref, [.d .n]⟩ := rfl
theorem kd150 : tab.kd 150 = some .ref := rfl
theorem ti151 : tab.ti 151 = some ⟨1, 8, .ref, [.d .n]⟩ := rfl
theorem kd151 : tab.kd 151 = some .ref := rfl
theorem ti152 : tab.ti 152 = some ⟨1, 8, .ref, [.d .n]⟩ := rfl
theorem kd152 : tab.kd 152 = some .ref := rfl
theorem ti153 : tab.ti 153 = some ⟨1, 8, .ref, [.d .n]⟩ := rfl
theorem kd153 : tab.kd 153 = some .ref := rfl
theorem ti154 : tab.ti 154 = some ⟨1, 8, .ref, [.d .n]⟩ := rfl
theorem kd154 : tab.kd 154 = some .ref := rfl
theorem ti155 : tab.ti 155 = some ⟨1, 8, .ref, [.d .n]⟩ := rfl
theorem kd155 : tab.kd 155 = some .ref := rfl
theorem ti156 : tab.ti 156 = some ⟨3, 48, (.arr 3 9), [.d (.s ByteArray.empty), .d (.s ByteArray.empty), .d (.s ByteArray.empty)]⟩ := rfl
theorem kd156 : tab.kd 156 = some (.arr 3 9) := rfl
theorem ti157 : tab.ti 157 = some ⟨1, 8, .ref, [.d .n]⟩ := rfl
theorem kd157 : tab.kd 157 = some .ref := rfl
theorem ti158 : tab.ti 158 = some ⟨1, 8, .ref, [.d .n]⟩ := rfl
theorem kd158 : tab.kd 158 = some .ref := rfl
theorem ti159 : tab.ti 159 = some ⟨1, 8, .ref, [.d .n]⟩ := rfl
theorem kd159 : tab.kd 159 = some .ref := rfl
theorem ti160 : tab.ti 160 = some ⟨1, 8, .ref, [.d .n]⟩ := rfl
theorem kd160 : tab.kd 160 = some .ref := rfl
theorem ti161 : tab.ti 161 = some ⟨1, 8, .ref, [.d .n]⟩ := rfl
theorem kd161 : tab.kd 161 = some .ref := rfl
theorem ti162 : tab.ti 162 = some ⟨2, 48, (.strct [(0, 43), (1, 43)]), [.z 1, .z 1]⟩ := rfl
theorem kd162 : tab.kd 162 = some (.strct [(0, 43), (1, 43)]) := rfl
theorem ti163 : tab.ti 163 = some ⟨2, 48, (.strct [(0, 43), (1, 43)]), [.z 1, .z 1]⟩ := rfl
theorem kd163 : tab.kd 163 = some (.strct [(0, 43), (1, 43)]) := rfl
theorem ti164 : tab.ti 164 = some ⟨1, 8, .ref, [.d .n]⟩ := rfl
theorem kd164 : tab.kd 164 = some .ref := rfl
theorem ti165 : tab.ti 165 = some ⟨1, 8, .ref, [.d .n]⟩ := rfl
theorem kd165 : tab.kd 165 = some .ref := rfl
theorem ti166 : tab.ti 166 = some ⟨1, 8, .ref, [.d .n]⟩ := rfl
theorem kd166 : tab.kd 166 = some .ref := rfl
theorem ti167 : tab.ti 167 = some ⟨1, 8, .ref, [.d .n]⟩ := rfl
theorem kd167 : tab.kd 167 = some .ref := rfl
theorem ti168 : tab.ti 168 = some ⟨1, 8, .ref, [.d .n]⟩ := rfl
theorem kd168 : tab.kd 168 = some .ref := rfl
theorem ti169 : tab.ti 169 = some ⟨1, 8, .ref, [.d .n]⟩ := rfl
theorem kd169 : tab.kd 169 = some .ref := rfl
theorem ti170 : tab.ti 170 = some ⟨1, 8, .ref, [.d .n]⟩ := rfl
theorem kd170 : tab.kd 170 = some .ref := rfl
theorem ti172 : tab.ti 172 = some ⟨1, 8, .ref, [.d .n]⟩ := rfl
theorem kd172 : tab.kd 172 = some .ref := rfl
theorem ti173 : tab.ti 173 = some ⟨1, 8, .ref, [.d .n]⟩ := rfl
theorem kd173 : tab.kd 173 = some .ref := rfl
theorem ti174 : tab.ti 174 = some ⟨1, 8, .ref, [.d .n]⟩ := rfl
theorem kd174 : tab.kd 174 = some .ref := rfl
theorem ti175 : tab.ti 175 = some ⟨1, 8, .ref, [.d .n]⟩ := rfl
theorem kd175 : tab.kd 175 = some .ref := rfl
theorem ti176 : tab.ti 176 = some ⟨1, 8, .ref, [.d .n]⟩ := rfl
theorem kd176 : tab.kd 176 = some .ref := rfl
theorem ti177 : tab.ti 177 = some ⟨1, 8, (.int .i64), [.d (.i .i64 0)]⟩ := rfl
theorem kd177 : tab.kd 177 = some (.int .i64) := rfl
theorem ti179 : tab.ti 179 = some ⟨1, 8, .ref, [.d .n]⟩ := rfl
theorem kd179 : tab.kd 179 = some .ref := rfl
theorem ti181 : tab.ti 181 = some ⟨1, 8, .ref, [.d .n]⟩ := rfl
theorem kd181 : tab.kd 181 = some .ref := rfl
theorem ti182 : tab.ti 182 = some ⟨1, 8, .ref, [.d .n]⟩ := rfl
theorem kd182 : tab.kd 182 = some .ref := rfl
theorem ti183 : tab.ti 183 = some ⟨1, 8, .ref, [.d .n]⟩ := rfl
theorem kd183 : tab.kd 183 = some .ref := rfl
theorem ti184 : tab.ti 184 = some ⟨1, 8, (.int .u64), [.d (.i .u64 0)]⟩ := rfl
theorem kd184 : tab.kd 184 = some (.int .u64) := rfl
theorem ti185 : tab.ti 185 = some ⟨1, 8, .ref, [.d .n]⟩ := rfl
theorem kd185 : tab.kd 185 = some .ref := rfl
theorem ti186 : tab.ti 186 = some ⟨1, 24, (.slice 43), [.z 1]⟩ := rfl
theorem kd186 : tab.kd 186 = some (.slice 43) := rfl
theorem ti187 : tab.ti 187 = some ⟨1, 8, .ref, [.d .n]⟩ := rfl
theorem kd187 : tab.kd 187 = some .ref := rfl
theorem ti188 : tab.ti 188 = some ⟨1, 8, .ref, [.d .n]⟩ := rfl
theorem kd188 : tab.kd 188 = some .ref := rfl
theorem ti189 : tab.ti 189 = some ⟨1, 8, .ref, [.d .n]⟩ := rfl
theorem kd189 : tab.kd 189 = some .ref := rfl
theorem ti190 : tab.ti 190 = some ⟨14, 224, (.arr 14 9), [.d (.s ByteArray.empty), .d (.s ByteArray.empty), .d (.s ByteArray.empty), .d (.s ByteArray.empty), .d (.s ByteArray.empty), .d (.s ByteArray.empty), .d (.s ByteArray.empty), .d (.s ByteArray.empty), .d (.s ByteArray.empty), .d (.s ByteArray.empty), .d (.s ByteArray.empty), .d (.s ByteArray.empty), .d (.s ByteArray.empty), .d (.s ByteArray.empty)]⟩ := rfl
theorem kd190 : tab.kd 190 = some (.arr 14 9) := rfl
theorem ti191 : tab.ti 191 = some ⟨1, 8, .ref, [.d .n]⟩ := rfl
theorem kd191 : tab.kd 191 = some .ref := rfl
theorem ti192 : tab.ti 192 = some ⟨1, 8, .ref, [.d .n]⟩ := rfl
theorem kd192 : tab.kd 192 = some .ref := rfl
theorem ti193 : tab.ti 193 = some ⟨1, 8, .ref, [.d .n]⟩ := rfl
theorem kd193 : tab.kd 193 = some .ref := rfl
theorem ti194 : tab.ti 194 = some ⟨1, 8, .ref, [.d .n]⟩ := rfl
theorem kd194 : tab.kd 194 = some .ref := rfl
theorem ti195 : tab.ti 195 = some ⟨1, 8, .ref, [.d .n]⟩ := rfl
theorem kd195 : tab.kd 195 = some .ref := rfl
theorem ti196 : tab.ti 196 = some ⟨1, 8, .ref, [.d .n]⟩ := rfl
theorem kd196 : tab.kd 196 = some .ref := rfl
theorem ti198 : tab.ti 198 = some ⟨1, 8, (.int .u64), [.d (.i .u64 0)]⟩ := rfl
theorem kd198 : tab.kd 198 = some (.int .u64) := rfl
theorem ti199 : tab.ti 199 = some ⟨1, 8, .ref, [.d .n]⟩ := rfl
theorem kd199 : tab.kd 199 = some .ref := rfl
theorem ti200 : tab.ti 200 = some ⟨1, 8, .ref, [.d .n]⟩ := rfl
theorem kd200 : tab.kd 200 = some .ref := rfl
theorem ti202 : tab.ti 202 = some ⟨1, 8, .ref, [.d .n]⟩ := rfl
theorem kd202 : tab.kd 202 = some .ref := rfl
theorem ti204 : tab.ti 204 = some ⟨1, 8, .ref, [.d .n]⟩ := rfl
theorem kd204 : tab.kd 204 = some .ref := rfl
theorem ti206 : tab.ti 206 = some ⟨1, 8, .ref, [.d .n]⟩ := rfl
theorem kd206 : tab.kd 206 = some .ref := rfl
theorem ti207 : tab.ti 207 = some ⟨3, 48, (.strct [(0, 9), (1, 9), (2, 38)]), [.d (.s ByteArray.empty), .d (.s ByteArray.empty), .d (.e false)]⟩ := rfl
theorem kd207 : tab.kd 207 = some (.strct [(0, 9), (1, 9), (2, 38)]) := rfl
theorem ti208 : tab.ti 208 = some ⟨3, 48, (.strct [(0, 9), (1, 9), (2, 38)]), [.d (.s ByteArray.empty), .d (.s ByteArray.empty), .d (.e false)]⟩ := rfl
theorem kd208 : tab.kd 208 = some (.strct [(0, 9), (1, 9), (2, 38)]) := rfl
theorem ti209 : tab.ti 209 = some ⟨1, 8, .ref, [.d .n]⟩ := rfl
theorem kd209 : tab.kd 209 = some .ref := rfl
theorem ti210 : tab.ti 210 = some ⟨1, 4, (.int .u32), [.d (.i .u32 0)]⟩ := rfl
theorem kd210 : tab.kd 210 = some (.int .u32) := rfl
theorem ti212 : tab.ti 212 = some ⟨1, 8, .ref, [.d .n]⟩ := rfl
theorem kd212 : tab.kd 212 = some .ref := rfl
theorem ti213 : tab.ti 213 = some ⟨1, 8, .ref, [.d .n]⟩ := rfl
theorem kd213 : tab.kd 213 = some .ref := rfl
theorem ti214 : tab.ti 214 = some ⟨1, 8, .ref, [.d .n]⟩ := rfl
theorem kd214 : tab.kd 214 = some .ref := rfl
theorem ti215 : tab.ti 215 = some ⟨1, 8, .ref, [.d .n]⟩ := rfl
theorem kd215 : tab.kd 215 = some .ref := rfl
theorem ti217 : tab.ti 217 = some ⟨1, 8, .ref, [.d .n]⟩ := rfl
theorem kd217 : tab.kd 217 = some .ref := rfl
theorem ti218 : tab.ti 218 = some ⟨1, 8, .ref, [.d .n]⟩ := rfl
theorem kd218 : tab.kd 218 = some .ref := rfl
theorem ti219 : tab.ti 219 = some ⟨1, 8, .ref, [.d .n]⟩ := rfl
theorem kd219 : tab.kd 219 = some .ref := rfl
theorem ti220 : tab.ti 220 = some ⟨1, 8, .ref, [.d .n]⟩ := rfl
theorem kd220 : tab.kd 220 = some .ref := rfl
theorem ti221 : tab.ti 221 = some ⟨20, 160, (.arr 20 198), [.d (.i .u64 0), .d (.i .u64 0), .d (.i .u64 0), .d (.i .u64 0), .d (.i .u64 0), .d (.i .u64 0), .d (.i .u64 0), .d (.i .u64 0), .d (.i .u64 0), .d (.i .u64 0), .d (.i .u64 0), .d (.i .u64 0), .d (.i .u64 0), .d (.i .u64 0), .d (.i .u64 0), .d (.i .u64 0), .d (.i .u64 0), .d (.i .u64 0), .d (.i .u64 0), .d (.i .u64 0)]⟩ := rfl
theorem kd221 : tab.kd 221 = some (.arr 20 198) := rfl
theorem ti223 : tab.ti 223 = some ⟨1, 8, .ref, [.d .n]⟩ := rfl
theorem kd223 : tab.kd 223 = some .ref := rfl
theorem ti224 : tab.ti 224 = some ⟨1, 8, .ref, [.d .n]⟩ := rfl
theorem kd224 : tab.kd 224 = some .ref := rfl
theorem ti226 : tab.ti 226 = some ⟨1, 16, (.strct [(0, 9)]), [.d (.s ByteArray.empty)]⟩ := rfl
theorem kd226 : tab.kd 226 = some (.strct [(0, 9)]) := rfl
theorem ti227 : tab.ti 227 = some ⟨1, 16, (.strct [(0, 9)]), [.d (.s ByteArray.empty)]⟩ := rfl
theorem kd227 : tab.kd 227 = some (.strct [(0, 9)]) := rfl
theorem ti228 : tab.ti 228 = some ⟨1, 8, .ref, [.d .n]⟩ := rfl
theorem kd228 : tab.kd 228 = some .ref := rfl
theorem ti230 : tab.ti 230 = some ⟨1, 8, .ref, [.d .n]⟩ := rfl
theorem kd230 : tab.kd 230 = some .ref := rfl
theorem ti231 : tab.ti 231 = some ⟨1, 8, .ref, [.d .n]⟩ := rfl
theorem kd231 : tab.kd 231 = some .ref := rfl
theorem ti233 : tab.ti 233 = some ⟨2, 2, (.strct [(0, 5), (1, 5)]), [.d (.i .u8 0), .d (.i .u8 0)]⟩ := rfl
theorem kd233 : tab.kd 233 = some (.strct [(0, 5), (1, 5)]) := rfl
theorem ti234 : tab.ti 234 = some ⟨2, 2, (.strct [(0, 5), (1, 5)]), [.d (.i .u8 0), .d (.i .u8 0)]⟩ := rfl
theorem kd234 : tab.kd 234 = some (.strct [(0, 5), (1, 5)]) := rfl
theorem ti235 : tab.ti 235 = some ⟨32, 32, (.arr 16 234), [.d (.i .u8 0), .d (.i .u8 0), .d (.i .u8 0), .d (.i .u8 0), .d (.i .u8 0), .d (.i .u8 0), .d (.i .u8 0), .d (.i .u8 0), .d (.i .u8 0), .d (.i .u8 0), .d (.i .u8 0), .d (.i .u8 0), .d (.i .u8 0), .d (.i .u8 0), .d (.i .u8 0), .d (.i .u8 0), .d (.i .u8 0), .d (.i .u8 0), .d (.i .u8 0), .d (.i .u8 0), .d (.i .u8 0), .d (.i .u8 0), .d (.i .u8 0), .d (.i .u8 0), .d (.i .u8 0), .d (.i .u8 0), .d (.i .u8 0), .d (.i .u8 0), .d (.i .u8 0), .d (.i .u8 0), .d (.i .u8 0), .d (.i .u8 0)]⟩ := rfl
theorem kd235 : tab.kd 235 = some (.arr 16 234) := rfl
theorem ti236 : tab.ti 236 = some ⟨1, 8, .ref, [.d .n]⟩ := rfl
theorem kd236 : tab.kd 236 = some .ref := rfl
theorem ti244 : tab.ti 244 = some ⟨1, 8, .ref, [.d .n]⟩ := rfl
theorem kd244 : tab.kd 244 = some .ref := rfl
theorem mp105 : tab.mp 105 = some (9, 3, (.i .i64 0)) := rfl

def tk := (And.intro (And.intro (And.intro (And.intro (And.intro (And.intro (And.intro (And.intro @ti1 @kd1) (And.intro @ti2 (And.intro @kd2 @ti3))) (And.intro (And.intro @kd3 (And.intro @ti4 @kd4)) (And.intro @ti5 (And.intro @kd5 @ti9)))) (And.intro (And.intro (And.intro @kd9 (And.intro @ti12 @kd12)) (And.intro @ti20 (And.intro @kd20 @ti21))) (And.intro (And.intro @kd21 (And.intro @ti22 @kd22)) (And.intro @ti23 (And.intro @kd23 @ti24))))) (And.intro (And.intro (And.intro (And.intro @kd24 (And.intro @ti25 @kd25)) (And.intro @ti27 (And.intro @kd27 @ti28))) (And.intro (And.intro @kd28 (And.intro @ti29 @kd29)) (And.intro @ti30 (And.intro @kd30 @ti31)))) (And.intro (And.intro (And.intro @kd31 (And.intro @ti32 @kd32)) (And.intro @ti33 (And.intro @kd33 @ti34))) (And.intro (And.intro @kd34 (And.intro @ti35 @kd35)) (And.intro @ti36 (And.intro @kd36 @ti37)))))) (And.intro (And.intro (And.intro (And.intro (And.intro @kd37 (And.intro @ti38 @kd38)) (And.intro @ti40 (And.intro @kd40 @ti41))) (And.intro (And.intro @kd41 (And.intro @ti42 @kd42)) (And.intro @ti43 (And.intro @kd43 @ti44)))) (And.intro (And.intro (And.intro @kd44 (And.intro @ti45 @kd45)) (And.intro @ti47 (And.intro @kd47 @ti48))) (And.intro (And.intro @kd48 (And.intro @ti49 @kd49)) (And.intro @ti50 (And.intro @kd50 @ti52))))) (And.intro (And.intro (And.intro (And.intro @kd52 (And.intro @ti53 @kd53)) (And.intro @ti54 (And.intro @kd54 @ti55))) (And.intro (And.intro @kd55 (And.intro @ti56 @kd56)) (And.intro @ti57 (And.intro @kd57 @ti58)))) (And.intro (And.intro (And.intro @kd58 (And.intro @ti60 @kd60)) (And.intro @ti62 (And.intro @kd62 @ti63))) (And.intro (And.intro @kd63 (And.intro @ti64 @kd64)) (And.intro @ti65 (And.intro @kd65 @ti66))))))) (And.intro (And.intro (And.intro (And.intro (And.intro (And.intro @kd66 @ti67) (And.intro @kd67 (And.intro @ti69 @kd69))) (And.intro (And.intro @ti70 (And.intro @kd70 @ti71)) (And.intro @kd71 (And.intro @ti72 @kd72)))) (And.intro (And.intro (And.intro @ti73 (And.intro @kd73 @ti74)) (And.intro @kd74 (And.intro @ti77 @kd77))) (And.intro (And.intro @ti78 (And.intro @kd78 @ti79)) (And.intro @kd79 (And.intro @ti80 @kd80))))) (And.intro (And.intro (And.intro (And.intro @ti81 (And.intro @kd81 @ti82)) (And.intro @kd82 (And.intro @ti84 @kd84))) (And.intro (And.intro @ti86 (And.intro @kd86 @ti88)) (And.intro @kd88 (And.intro @ti90 @kd90)))) (And.intro (And.intro (And.intro @ti91 (And.intro @kd91 @ti93)) (And.intro @kd93 (And.intro @ti94 @kd94))) (And.intro (And.intro @ti95 (And.intro @kd95 @ti96)) (And.intro @kd96 (And.intro @ti97 @kd97)))))) (And.intro (And.intro (And.intro (And.intro (And.intro @ti99 (And.intro @kd99 @ti100)) (And.intro @kd100 (And.intro @ti102 @kd102))) (And.intro (And.intro @ti103 (And.intro @kd103 @ti104)) (And.intro @kd104 (And.intro @ti108 @kd108)))) (And.intro (And.intro (And.intro @ti109 (And.intro @kd109 @ti110)) (And.intro @kd110 (And.intro @ti111 @kd111))) (And.intro (And.intro @ti112 (And.intro @kd112 @ti113)) (And.intro @kd113 (And.intro @ti114 @kd114))))) (And.intro (And.intro (And.intro (And.intro @ti115 (And.intro @kd115 @ti116)) (And.intro @kd116 (And.intro @ti117 @kd117))) (And.intro (And.intro @ti118 (And.intro @kd118 @ti119)) (And.intro @kd119 (And.intro @ti120 @kd120)))) (And.intro (And.intro (And.intro @ti121 (And.intro @kd121 @ti122)) (And.intro @kd122 (And.intro @ti123 @kd123))) (And.intro (And.intro @ti124 (And.intro @kd124 @ti125)) (And.intro @kd125 (And.intro @ti126 @kd126)))))))) (And.intro (And.intro (And.intro (And.intro (And.intro (And.intro (And.intro @ti127 @kd127) (And.intro @ti128 (And.intro @kd128 @ti129))) (And.intro (And.intro @kd129 (And.intro @ti131 @kd131)) (And.intro @ti132 (And.intro @kd132 @ti134)))) (And.intro (And.intro (And.intro @kd134 (And.intro @ti135 @kd135)) (And.intro @ti136 (And.intro @kd136 @ti137))) (And.intro (And.intro @kd137 (And.intro @ti138 @kd138)) (And.intro @ti139 (And.intro @kd139 @ti140))))) (And.intro (And.intro (And.intro (And.intro @kd140 (And.intro @ti141 @kd141)) (And.intro @ti142 (And.intro @kd142 @ti143))) (And.intro (And.intro @kd143 (And.intro @ti144 @kd144)) (And.intro @ti145 (And.intro @kd145 @ti147)))) (And.intro (And.intro (And.intro @kd147 (And.intro @ti148 @kd148)) (And.intro @ti149 (And.intro @kd149 @ti150))) (And.intro (And.intro @kd150 (And.intro @ti151 @kd151)) (And.intro @ti152 (And.intro @kd152 @ti153)))))) (And.intro (And.intro (And.intro (And.intro (And.intro @kd153 (And.intro @ti154 @kd154)) (And.intro @ti155 (And.intro @kd155 @ti156))) (And.intro (And.intro @kd156 (And.intro @ti157 @kd157)) (And.intro @ti158 (And.intro @kd158 @ti159)))) (And.intro (And.intro (And.intro @kd159 (And.intro @ti160 @kd160)) (And.intro @ti161 (And.intro @kd161 @ti162))) (And.intro (And.intro @kd162 (And.intro @ti163 @kd163)) (And.intro @ti164 (And.intro @kd164 @ti165))))) (And.intro (And.intro (And.intro (And.intro @kd165 (And.intro @ti166 @kd166)) (And.intro @ti167 (And.intro @kd167 @ti168))) (And.intro (And.intro @kd168 (And.intro @ti169 @kd169)) (And.intro @ti170 (And.intro @kd170 @ti172)))) (And.intro (And.intro (And.intro @kd172 (And.intro @ti173 @kd173)) (And.intro @ti174 (And.intro @kd174 @ti175))) (And.intro (And.intro @kd175 (And.intro @ti176 @kd176)) (And.intro @ti177 (And.intro @kd177 @ti179))))))) (And.intro (And.intro (And.intro (And.intro (And.intro (And.intro @kd179 (And.intro @ti181 @kd181)) (And.intro @ti182 (And.intro @kd182 @ti183))) (And.intro (And.intro @kd183 (And.intro @ti184 @kd184)) (And.intro @ti185 (And.intro @kd185 @ti186)))) (And.intro (And.intro (And.intro @kd186 (And.intro @ti187 @kd187)) (And.intro @ti188 (And.intro @kd188 @ti189))) (And.intro (And.intro @kd189 (And.intro @ti190 @kd190)) (And.intro @ti191 (And.intro @kd191 @ti192))))) (And.intro (And.intro (And.intro (And.intro @kd192 (And.intro @ti193 @kd193)) (And.intro @ti194 (And.intro @kd194 @ti195))) (And.intro (And.intro @kd195 (And.intro @ti196 @kd196)) (And.intro @ti198 (And.intro @kd198 @ti199)))) (And.intro (And.intro (And.intro @kd199 (And.intro @ti200 @kd200)) (And.intro @ti202 (And.intro @kd202 @ti204))) (And.intro (And.intro @kd204 (And.intro @ti206 @kd206)) (And.intro @ti207 (And.intro @kd207 @ti208)))))) (And.intro (And.intro (And.intro (And.intro (And.intro @kd208 (And.intro @ti209 @kd209)) (And.intro @ti210 (And.intro @kd210 @ti212))) (And.intro (And.intro @kd212 (And.intro @ti213 @kd213)) (And.intro @ti214 (And.intro @kd214 @ti215)))) (And.intro (And.intro (And.intro @kd215 (And.intro @ti217 @kd217)) (And.intro @ti218 (And.intro @kd218 @ti219))) (And.intro (And.intro @kd219 (And.intro @ti220 @kd220)) (And.intro @ti221 (And.intro @kd221 @ti223))))) (And.intro (And.intro (And.intro (And.intro @kd223 (And.intro @ti224 @kd224)) (And.intro @ti226 (And.intro @kd226 @ti227))) (And.intro (And.intro @kd227 (And.intro @ti228 @kd228)) (And.intro @ti230 (And.intro @kd230 @ti231)))) (And.intro (And.intro (And.intro @kd231 (And.intro @ti233 @kd233)) (And.intro @ti234 (And.intro @kd234 @ti235))) (And.intro (And.intro @kd235 (And.intro @ti236 @kd236)) (And.intro @ti244 (And.intro @kd244 @mp105)))))))))
theorem tab_bld : tab.bld = true := rfl
def gv : Nat → Option Summ
  | 17 => some (.bld bW)
  | 19 => some (.bld bS)
  | 47 => some (.own glCut)
  | 68 => some (.own glItoa)
  | 79 => some (.shared glSplit)
  | 81 => some (.own glAtoi)
  | 105 => some (.own glClone)
  | 163 => some (.own glJoin)
  | _ => none
theorem mixed : prog.follows .mixedOrders = true := by decide +kernel
def md : Nat → Nat
  | 24 => 5
  | 26 => 5
  | 37 => 1
  | 38 => 1
  | 45 => 1
  | 53 => 5
  | 58 => 5
  | _ => 0
def sigs : Nat → Sig
  | 3 => ⟨ByteArray × Unit, Bool⟩
  | 4 => ⟨ByteArray × Unit, Bool⟩
  | 6 => ⟨ByteArray × Unit, ByteArray⟩
  | 7 => ⟨ByteArray × Unit, ByteArray⟩
  | 8 => ⟨ByteArray × Unit, Int⟩
  | 9 => ⟨ByteArray × Unit, Int⟩
  | 12 => ⟨ByteArray × Unit, (List KeepRec) × Int⟩
  | 13 => ⟨(List KeepRec) × Unit, (List KeepRec)⟩
  | 14 => ⟨KeepRec × Unit, ByteArray⟩
  | 15 => ⟨ByteArray × Unit, (List KeepRec) × Int⟩
  | 16 => ⟨(List KeepRec) × Unit, (List KeepRec)⟩
  | 18 => ⟨KeepRec × Unit, ByteArray⟩
  | 24 => ⟨(Pt L14In) × U8 × Unit, Int × (Pt L14In)⟩
  | 25 => ⟨ByteArray × Unit, KeepRec⟩
  | 26 => ⟨(Pt L14In) × Int × Unit, ByteArray × (Pt L14In)⟩
  | 27 => ⟨KeepRec × Unit, KeepRec⟩
  | 28 => ⟨KeepRec × Unit, Bool⟩
  | 29 => ⟨ByteArray × Unit, ByteArray⟩
  | 30 => ⟨Int × Unit, ByteArray⟩
  | 31 => ⟨ByteArray × Unit, Int⟩
  | 32 => ⟨ByteArray × Unit, KeepRec × Int⟩
  | 33 => ⟨(List KeepRec) × Unit, (List KeepRec)⟩
  | 35 => ⟨KeepRec × Unit, Bool⟩
  | 36 => ⟨KeepRec × Unit, ByteArray⟩
  | 37 => ⟨ByteArray × U8 × Unit, (List ByteArray)⟩
  | 38 => ⟨ByteArray × Unit, (List ByteArray)⟩
  | 40 => ⟨ByteArray × Unit, Int × Bool⟩
  | 41 => ⟨(List ByteArray) × Unit, CodeIns⟩
  | 45 => ⟨ByteArray × Unit, (List (List ByteArray))⟩
  | 46 => ⟨ByteArray × Unit, Int × Bool⟩
  | 48 => ⟨(List ByteArray) × Unit, T3 (List Int) Int Int⟩
  | 49 => ⟨(List ByteArray) × Unit, CodeIns⟩
  | 53 => ⟨(Pt L14In) × Unit, ByteArray × (Pt L14In)⟩
  | 54 => ⟨ByteArray × Unit, Bool⟩
  | 55 => ⟨ByteArray × Unit, (List FaceSig) × Bool⟩
  | 56 => ⟨ByteArray × Unit, CodeObj × Bool⟩
  | 57 => ⟨Int × Int × Int × Unit, Bool⟩
  | 58 => ⟨(Pt Unpacker) × Unit, ByteArray × (Pt Unpacker)⟩
  | 59 => ⟨ByteArray × ByteArray × Unit, Bool⟩
  | 60 => ⟨KeepRec × Unit, KeepRec⟩
  | 62 => ⟨ByteArray × Unit, Bool⟩
  | 63 => ⟨ByteArray × Unit, Bool⟩
  | 64 => ⟨(List ByteArray) × Fv × Unit, Bool⟩
  | 65 => ⟨ByteArray × Unit, Bool⟩
  | 66 => ⟨ByteArray × Unit, CodeObj × Bool⟩
  | 67 => ⟨ByteArray × Unit, ByteArray⟩
  | 69 => ⟨ByteArray × Unit, Int⟩
  | 70 => ⟨ByteArray × U8 × Unit, Int⟩
  | 71 => ⟨ByteArray × Unit, Int⟩
  | 72 => ⟨ByteArray × Unit, (List Int)⟩
  | 73 => ⟨Int × Unit, ByteArray⟩
  | 74 => ⟨CodeFun × Unit, Bool⟩
  | 75 => ⟨(List Int) × Unit, ByteArray⟩
  | 76 => ⟨Int × Unit, ByteArray⟩
  | 80 => ⟨ByteArray × ByteArray × Unit, ByteArray⟩
  | 83 => ⟨ByteArray × Unit, (List Int)⟩
  | 84 => ⟨ByteArray × Unit, Int⟩
  | 85 => ⟨(List ByteArray) × ByteArray × Unit, Int⟩
  | 86 => ⟨(List Int) × Int × Int × Unit, ByteArray⟩
  | 87 => ⟨(List CodeIns) × Unit, ByteArray⟩
  | 88 => ⟨ByteArray × (List Int) × Int × Int × Unit, Bool⟩
  | 89 => ⟨(List CodeIns) × Fv × Unit, Bool⟩
  | 91 => ⟨CodeIns × Unit, Bool⟩
  | 92 => ⟨(List Int) × Fv × Unit, Bool⟩
  | 97 => ⟨ByteArray × Unit, Bool⟩
  | 98 => ⟨ByteArray × Unit, FaceSig⟩
  | 99 => ⟨(List FaceSig) × Unit, Bool⟩
  | 100 => ⟨(List FaceSig) × Unit, ByteArray⟩
  | 101 => ⟨(List ByteArray) × Unit, CodeObj⟩
  | 102 => ⟨CodeObj × Unit, Bool⟩
  | 103 => ⟨CodeObj × Unit, ByteArray⟩
  | 104 => ⟨ByteArray × ByteArray × Unit, Bool⟩
  | 106 => ⟨ByteArray × Unit, Bool⟩
  | 107 => ⟨ByteArray × Unit, (List FaceSig) × Bool⟩
  | 108 => ⟨(List ByteArray) × Fv × Unit, Int⟩
  | 109 => ⟨CodeObj × Unit, ByteArray⟩
  | 111 => ⟨ByteArray × Unit, Bool⟩
  | 112 => ⟨CodeIns × Unit, Bool⟩
  | 122 => ⟨ByteArray × ByteArray × Unit, ByteArray⟩
  | 126 => ⟨(List Int) × Unit, ByteArray⟩
  | 127 => ⟨Int × Unit, ByteArray⟩
  | 128 => ⟨(List Int) × Unit, Bool⟩
  | 129 => ⟨Int × Unit, Bool⟩
  | 130 => ⟨(List CodeIns) × Fv × Unit, Int⟩
  | 131 => ⟨Int × Unit, Bool⟩
  | 132 => ⟨(List Int) × Fv × Unit, Int⟩
  | 137 => ⟨FaceSig × Unit, Bool⟩
  | 138 => ⟨(List ByteArray) × Unit, CodeFun⟩
  | 139 => ⟨CodeFun × Unit, ByteArray⟩
  | 140 => ⟨(List ByteArray) × ByteArray × Unit, Bool⟩
  | 141 => ⟨(List FaceSig) × Unit, Bool⟩
  | 142 => ⟨(List FaceSig) × Unit, ByteArray⟩
  | 143 => ⟨CodeObj × Unit, Bool⟩
  | 153 => ⟨ByteArray × ByteArray × Unit, Bool⟩
  | 164 => ⟨Int × Unit, Bool⟩
  | 174 => ⟨CodeIns × Unit, Bool⟩
  | 175 => ⟨(List CodeRef) × Fv × Unit, Bool⟩
  | 176 => ⟨CodeRef × Unit, Bool⟩
  | 194 => ⟨(List CodeRef) × Fv × Unit, Int⟩
  | _ => noSig
end Go.Fs.Se
namespace Go.Fs.Se
open Go.Proofs.Tryz (prog)
def lv0 : Nat → Nat → List Nat
  | 6, 5 => [3, 5, 6]
  | 7, 4 => [5, 14, 15, 16]
  | 12, 6 => [0, 4, 5, 6]
  | 13, 5 => [0, 3, 4]
  | 13, 9 => [0, 3, 4, 5, 6]
  | 14, 5 => [1, 3, 4]
  | 15, 1 => [0, 4, 5]
  | 20, 6 => [0, 2, 4, 5, 6]
  | 21, 4 => [1, 2, 3]
  | 21, 9 => [1, 2, 4]
  | 22, 5 => [0, 2, 4, 20, 21, 22]
  | 23, 4 => [1, 2, 13, 14, 15]
  | 23, 10 => [1, 2, 32, 33]
  | 24, 2 => [0, 1, 5]
  | 25, 5 => [2, 3, 4, 5, 7]
  | 28, 4 => [1, 3]
  | 30, 6 => [0, 3]
  | 31, 3 => [0, 3, 4]
  | 32, 10 => [0, 2, 12, 13, 62, 63]
  | 33, 3 => [0, 3, 4, 11, 12, 13]
  | 33, 8 => [3, 4, 23, 24, 25]
  | 36, 3 => [1, 3, 20, 21, 22]
  | 37, 4 => [0, 1, 5, 6, 7]
  | 38, 4 => [3, 4, 5]
  | 40, 8 => [0, 4, 5, 6]
  | 41, 2 => [0, 2, 3]
  | 42, 5 => [1, 3, 4]
  | 42, 12 => [1, 6]
  | 43, 5 => [1, 3, 4]
  | 43, 13 => [1, 3, 4, 5, 7]
  | 43, 17 => [1, 3, 8]
  | 44, 10 => [6, 7, 8]
  | 44, 14 => [6, 7, 9]
  | 45, 3 => [3, 9, 10, 11]
  | 50, 6 => [1, 3, 13, 14, 15]
  | 50, 11 => [3, 43, 44, 45]
  | 51, 3 => [1, 3, 7, 8, 9]
  | 54, 4 => [0, 3]
  | 55, 6 => [0, 4, 5, 6]
  | 62, 2 => [0, 5, 6]
  | 66, 5 => [0, 2, 4, 18, 19, 20]
  | 69, 3 => [0, 3, 6, 7]
  | 70, 2 => [0, 1, 5]
  | 71, 2 => [0, 3]
  | 72, 6 => [3, 4, 5]
  | 74, 4 => [1, 3]
  | 74, 9 => [1, 4]
  | 75, 3 => [0, 3, 4]
  | 83, 5 => [3, 11, 12, 13]
  | 85, 2 => [0, 1, 7, 8]
  | 87, 3 => [3, 6, 7, 8]
  | 96, 8 => [0, 2, 58, 59, 60]
  | 97, 3 => [0, 3, 4]
  | 99, 4 => [0, 3]
  | 100, 5 => [0, 3, 4]
  | 101, 3 => [0, 2, 3, 4]
  | 102, 4 => [1, 3]
  | 102, 10 => [1, 4, 5]
  | 103, 5 => [1, 3, 4]
  | 103, 9 => [1, 3, 5]
  | 103, 13 => [1, 3, 5, 6]
  | 107, 3 => [0, 4, 16, 17, 18]
  | 108, 2 => [0, 1, 7, 8]
  | 109, 6 => [1, 3, 14, 15, 16]
  | 109, 11 => [3, 31, 32, 33]
  | 116, 9 => [0, 1, 5, 6, 7]
  | 116, 14 => [0, 1, 5, 6, 8]
  | 121, 11 => [0, 1, 2, 3, 9, 10]
  | 123, 10 => [5, 6, 47, 48, 49]
  | 125, 15 => [0, 1, 5, 6, 7, 8, 9, 10]
  | 126, 3 => [3, 7, 8, 9]
  | 130, 2 => [0, 1, 7, 8]
  | 132, 2 => [0, 1, 7, 8]
  | 134, 3 => [0, 3, 9, 10, 11]
  | 134, 11 => [6, 25, 26, 27]
  | 137, 4 => [1, 3]
  | 141, 2 => [0, 5, 6, 7]
  | 142, 5 => [3, 9, 10, 11]
  | 143, 3 => [1, 3, 7, 8, 9]
  | 148, 2 => [0, 2, 4, 6, 7]
  | 149, 3 => [0, 3, 4]
  | 150, 6 => [0, 1, 6, 7]
  | 151, 1 => [0, 1, 5]
  | 162, 5 => [0, 1, 5, 6, 7, 8, 9]
  | 162, 11 => [0, 1, 5, 6, 7, 8, 10]
  | 163, 12 => [0, 1, 5, 39, 40, 41]
  | 163, 22 => [1, 8, 63, 64, 65]
  | 170, 8 => [7, 8]
  | 172, 8 => [6, 50, 51, 52]
  | 179, 1 => [0, 1, 4]
  | 180, 11 => [0, 1, 3, 4, 10, 11, 12, 13, 14, 15, 16]
  | 180, 18 => [0, 1, 3, 4, 10, 11, 12, 13, 17]
  | 181, 3 => [0, 3, 4]
  | 182, 2 => [2, 4]
  | 185, 36 => [1, 8, 9, 10, 11, 12, 13, 99, 100, 101]
  | 189, 3 => [0, 4, 5]
  | 189, 8 => [4, 6, 7, 8]
  | 193, 4 => [0, 1, 12, 13]
  | 194, 2 => [0, 1, 7, 8]
  | 202, 10 => [0, 3, 4, 5]
  | 204, 1 => [0, 1, 3]
  | _, _ => []
def plT : Nat → List (Nat × List Nat)
  | 20 => [(11, [0, 4, 5, 1004, 1005]), (16, [0, 11, 12, 13, 1011, 1012, 1013, 3011, 3012, 4011, 4012, 6011, 6012, 7011, 7012, 8011, 8012])]
  | 22 => [(17, [0, 2007, 2008, 3007, 3008, 4007, 4008])]
  | 24 => [(7, [0])]
  | 25 => [(7, [0, 4, 5, 1004, 1005])]
  | 32 => [(11, [0, 4, 5, 1004, 1005])]
  | 44 => [(2, [0, 6, 1006])]
  | 49 => [(2, [0])]
  | 50 => [(8, [0, 15, 20, 1015, 1020, 4015, 4020, 5015, 5020, 17000, 18000])]
  | 66 => [(11, [0, 1009, 2009, 4009, 5009, 7009]), (16, [0, 2007, 2008, 3007, 3008, 4007, 4008])]
  | 87 => [(5, [0, 9, 1009, 4009])]
  | 95 => [(5, [0, 2])]
  | 96 => [(0, [0, 1012, 2012, 3012, 4012, 6012, 7012, 8012, 9012, 10012]), (6, [0, 1013, 1014, 1015, 1017, 2013, 2014, 2015, 2017, 3013, 3014, 3015, 3017, 4013, 5013]), (13, [0, 9000, 10000])]
  | 98 => [(5, [0])]
  | 101 => [(10, [0, 15, 1015]), (12, [0, 4, 5, 1004, 1005]), (14, [0, 11, 12, 13, 1011, 1012, 1013, 3011, 3012, 4011, 4012, 6011, 6012, 7011, 7012, 8011, 8012])]
  | 109 => [(16, [0, 14, 19, 1014, 1019, 16000, 17000])]
  | 116 => [(4, [0, 1007, 2007, 3007])]
  | 118 => [(3, [0])]
  | 119 => [(5, [0])]
  | 120 => [(7, [0, 1000, 2000]), (10, [0, 2006]), (11, [0, 1010, 2010, 3010, 4010, 5010, 6010, 7010, 8010]), (12, [0, 6000, 7000])]
  | 135 => [(14, [0, 1009, 2009, 3009, 4009, 5009])]
  | 136 => [(1, [0, 6000, 7000, 8000])]
  | 138 => [(1, [0, 1013, 2013, 4013, 5013, 8013, 9013, 10013, 11013])]
  | 142 => [(7, [0, 6, 11, 1006, 1011, 8000, 9000])]
  | 148 => [(4, [0])]
  | 155 => [(1, [0, 3000])]
  | 156 => [(1, [0, 3000])]
  | 172 => [(4, [0, 1007, 2007, 3007])]
  | 179 => [(7, [0]), (8, [0]), (9, [0]), (10, [0]), (17, [0]), (18, [0]), (23, [0])]
  | 203 => [(0, [0, 10000, 11000, 12000, 13000])]
  | _ => []
def lvT (f n : Nat) : List Nat := if 5000 ≤ n then ((plT f).lookup (n - 5000)).getD [] else lv0 f n
theorem lv_pl (f id : Nat) : lvT f (rkey id) = ((plT f).lookup id).getD [] := by unfold lvT rkey; rw [if_pos (by omega), Nat.add_sub_cancel_left]
noncomputable def M : Prm := { P := prog, T := tab, given := gv, mode := md, achk := fun f => sigA (sigs f), chk := fun f => sigR (sigs f), lv := lvT }
theorem E0_T (aa : AV) : (envOf M aa).T = tab := rfl
theorem E0_aa (aa : AV) : (envOf M aa).aa = aa := rfl
theorem M_T : M.T = tab := rfl
theorem M_lv : M.lv = lvT := rfl
def seS := And.intro tk (And.intro tyS (And.intro @E0_T (And.intro @E0_aa (And.intro M_T (And.intro M_lv tab_bld)))))
end Go.Fs.Se
namespace Go.Fs.Se
open Cel (cel unc)
open Dat (enc dec)
open Arg (ea da)
theorem c17 : ∀ aa, (envOf M aa).S 17 = some (.bld bW) := fun _ => rfl
theorem c19 : ∀ aa, (envOf M aa).S 19 = some (.bld bS) := fun _ => rfl
theorem c47 : (∀ {ρ : Type} (ds : List D) (F : D → Option ρ), (glCut ds).bind F = (da (α := ByteArray × ByteArray × Unit) ds).bind (callN (fun x => lCut x.1 x.2.1) F)) ∧ ∀ aa, (envOf M aa).S 47 = some (.own glCut) := ⟨fun ds F => ownG_K _ ds F, fun _ => rfl⟩
theorem c68 : (∀ {ρ : Type} (ds : List D) (F : D → Option ρ), (glItoa ds).bind F = (da (α := Int × Unit) ds).bind (callN (fun x => lItoa x.1) F)) ∧ ∀ aa, (envOf M aa).S 68 = some (.own glItoa) := ⟨fun ds F => ownG_K _ ds F, fun _ => rfl⟩
theorem c79 : (∀ {ρ : Type} (ds : List D) (F : D → Option ρ), (glSplit ds).bind F = (da (α := ByteArray × ByteArray × Unit) ds).bind (callN (fun x => lSplit x.1 x.2.1) F)) ∧ ∀ aa, (envOf M aa).S 79 = some (.shared glSplit) := ⟨fun ds F => ownG_K _ ds F, fun _ => rfl⟩
theorem c81 : (∀ {ρ : Type} (ds : List D) (F : D → Option ρ), (glAtoi ds).bind F = (da (α := ByteArray × Unit) ds).bind (callN (fun x => lAtoi x.1) F)) ∧ ∀ aa, (envOf M aa).S 81 = some (.own glAtoi) := ⟨fun ds F => ownG_K _ ds F, fun _ => rfl⟩
theorem c105 : (∀ {ρ : Type} (ds : List D) (F : D → Option ρ), (glClone ds).bind F = (da (α := List ByteArray × Unit) ds).bind (callN (fun x => lClone x.1) F)) ∧ ∀ aa, (envOf M aa).S 105 = some (.own glClone) := ⟨fun ds F => ownG_K _ ds F, fun _ => rfl⟩
theorem c163 : (∀ {ρ : Type} (ds : List D) (F : D → Option ρ), (glJoin ds).bind F = (da (α := List ByteArray × ByteArray × Unit) ds).bind (callN (fun x => lJoin x.1 x.2.1) F)) ∧ ∀ aa, (envOf M aa).S 163 = some (.own glJoin) := ⟨fun ds F => ownG_K _ ds F, fun _ => rfl⟩
theorem h3 : Has M 3 (ByteArray × Unit) (Bool) := ⟨fun _ => rfl, fun _ => rfl⟩
noncomputable def n3 (a0 : ByteArray) : Option (Bool) := fnO M 3 (Bool) (a0, ())
theorem m3 : M.mode 3 = 0 := rfl
noncomputable def cd3 : Code := match Go.Proofs.Tryz.f3.body with | some c => c | none => .skip
theorem pl3 : plT 3 = [] := rfl
theorem h4 : Has M 4 (ByteArray × Unit) (Bool) := ⟨fun _ => rfl, fun _ => rfl⟩
noncomputable def n4 (a0 : ByteArray) : Option (Bool) := fnO M 4 (Bool) (a0, ())
theorem m4 : M.mode 4 = 0 := rfl
noncomputable def cd4 : Code := match Go.Proofs.Tryz.f4.body with | some c => c | none => .skip
theorem pl4 : plT 4 = [] := rfl
theorem h6 : Has M 6 (ByteArray × Unit) (ByteArray) := ⟨fun _ => rfl, fun _ => rfl⟩
noncomputable def n6 (a0 : ByteArray) : Option (ByteArray) := fnO M 6 (ByteArray) (a0, ())
theorem c6 : (∀ {ρ : Type} (ds : List D) (F : D → Option ρ), ((lastR M).o 6 ds).bind F = (da (α := ByteArray × Unit) ds).bind (callN (fun x => n6 x.1) F)) ∧ ∀ aa, (envOf M aa).S 6 = some (.own ((lastR M).o 6)) := ⟨fun ds F => call_oK h6 ds F, fun _ => rfl⟩
theorem m6 : M.mode 6 = 0 := rfl
noncomputable def cd6 : Code := match Go.Proofs.Tryz.f6.body with | some c => c | none => .skip
theorem pl6 : plT 6 = [] := rfl
theorem lv6_5 : lvT 6 5 = [3, 5, 6] := rfl
theorem h7 : Has M 7 (ByteArray × Unit) (ByteArray) := ⟨fun _ => rfl, fun _ => rfl⟩
noncomputable def n7 (a0 : ByteArray) : Option (ByteArray) := fnO M 7 (ByteArray) (a0, ())
theorem c7 : (∀ {ρ : Type} (ds : List D) (F : D → Option ρ), ((lastR M).o 7 ds).bind F = (da (α := ByteArray × Unit) ds).bind (callN (fun x => n7 x.1) F)) ∧ ∀ aa, (envOf M aa).S 7 = some (.own ((lastR M).o 7)) := ⟨fun ds F => call_oK h7 ds F, fun _ => rfl⟩
theorem m7 : M.mode 7 = 0 := rfl
noncomputable def cd7 : Code := match Go.Proofs.Tryz.f7.body with | some c => c | none => .skip
theorem pl7 : plT 7 = [] := rfl
theorem lv7_4 : lvT 7 4 = [5, 14, 15, 16] := rfl
theorem h8 : Has M 8 (ByteArray × Unit) (Int) := ⟨fun _ => rfl, fun _ => rfl⟩
noncomputable def n8 (a0 : ByteArray) : Option (Int) := fnO M 8 (Int) (a0, ())
theorem c8 : (∀ {ρ : Type} (ds : List D) (F : D → Option ρ), ((lastR M).o 8 ds).bind F = (da (α := ByteArray × Unit) ds).bind (callN (fun x => n8 x.1) F)) ∧ ∀ aa, (envOf M aa).S 8 = some (.own ((lastR M).o 8)) := ⟨fun ds F => call_oK h8 ds F, fun _ => rfl⟩
theorem m8 : M.mode 8 = 0 := rfl
noncomputable def cd8 : Code := match Go.Proofs.Tryz.f8.body with | some c => c | none => .skip
theorem pl8 : plT 8 = [] := rfl
theorem h9 : Has M 9 (ByteArray × Unit) (Int) := ⟨fun _ => rfl, fun _ => rfl⟩
noncomputable def n9 (a0 : ByteArray) : Option (Int) := fnO M 9 (Int) (a0, ())
theorem c9 : (∀ {ρ : Type} (ds : List D) (F : D → Option ρ), ((lastR M).o 9 ds).bind F = (da (α := ByteArray × Unit) ds).bind (callN (fun x => n9 x.1) F)) ∧ ∀ aa, (envOf M aa).S 9 = some (.own ((lastR M).o 9)) := ⟨fun ds F => call_oK h9 ds F, fun _ => rfl⟩
theorem m9 : M.mode 9 = 0 := rfl
noncomputable def cd9 : Code := match Go.Proofs.Tryz.f9.body with | some c => c | none => .skip
theorem pl9 : plT 9 = [] := rfl
theorem h12 : Has M 12 (ByteArray × Unit) ((List KeepRec) × Int) := ⟨fun _ => rfl, fun _ => rfl⟩
noncomputable def n12 (a0 : ByteArray) : Option ((List KeepRec) × Int) := fnO M 12 ((List KeepRec) × Int) (a0, ())
theorem c12 : (∀ {ρ : Type} (ds : List D) (F : D → Option ρ), ((lastR M).o 12 ds).bind F = (da (α := ByteArray × Unit) ds).bind (callN (fun x => n12 x.1) F)) ∧ ∀ aa, (envOf M aa).S 12 = some (.own ((lastR M).o 12)) := ⟨fun ds F => call_oK h12 ds F, fun _ => rfl⟩
theorem m12 : M.mode 12 = 0 := rfl
noncomputable def cd12 : Code := match Go.Proofs.Tryz.f12.body with | some c => c | none => .skip
theorem pl12 : plT 12 = [] := rfl
theorem lv12_6 : lvT 12 6 = [0, 4, 5, 6] := rfl
theorem h13 : Has M 13 ((List KeepRec) × Unit) ((List KeepRec)) := ⟨fun _ => rfl, fun _ => rfl⟩
noncomputable def n13 (a0 : (List KeepRec)) : Option ((List KeepRec)) := fnO M 13 ((List KeepRec)) (a0, ())
theorem c13 : (∀ {ρ : Type} (ds : List D) (F : D → Option ρ), ((lastR M).o 13 ds).bind F = (da (α := (List KeepRec) × Unit) ds).bind (callN (fun x => n13 x.1) F)) ∧ ∀ aa, (envOf M aa).S 13 = some (.own ((lastR M).o 13)) := ⟨fun ds F => call_oK h13 ds F, fun _ => rfl⟩
theorem m13 : M.mode 13 = 0 := rfl
noncomputable def cd13 : Code := match Go.Proofs.Tryz.f13.body with | some c => c | none => .skip
theorem pl13 : plT 13 = [] := rfl
theorem lv13_5 : lvT 13 5 = [0, 3, 4] := rfl
theorem lv13_9 : lvT 13 9 = [0, 3, 4, 5, 6] := rfl
theorem h14 : Has M 14 (KeepRec × Unit) (ByteArray) := ⟨fun _ => rfl, fun _ => rfl⟩
noncomputable def n14 (a0 : KeepRec) : Option (ByteArray) := fnO M 14 (ByteArray) (a0, ())
theorem c14 : (∀ {ρ : Type} (ds : List D) (F : D → Option ρ), ((lastR M).o 14 ds).bind F = (da (α := KeepRec × Unit) ds).bind (callN (fun x => n14 x.1) F)) ∧ ∀ aa, (envOf M aa).S 14 = some (.own ((lastR M).o 14)) := ⟨fun ds F => call_oK h14 ds F, fun _ => rfl⟩
theorem m14 : M.mode 14 = 0 := rfl
noncomputable def cd14 : Code := match Go.Proofs.Tryz.f14.body with | some c => c | none => .skip
theorem pl14 : plT 14 = [] := rfl
theorem lv14_5 : lvT 14 5 = [1, 3, 4] := rfl
theorem h15 : Has M 15 (ByteArray × Unit) ((List KeepRec) × Int) := ⟨fun _ => rfl, fun _ => rfl⟩
noncomputable def n15 (a0 : ByteArray) : Option ((List KeepRec) × Int) := fnO M 15 ((List KeepRec) × Int) (a0, ())
theorem c15 : (∀ {ρ : Type} (ds : List D) (F : D → Option ρ), ((lastR M).o 15 ds).bind F = (da (α := ByteArray × Unit) ds).bind (callN (fun x => n15 x.1) F)) ∧ ∀ aa, (envOf M aa).S 15 = some (.own ((lastR M).o 15)) := ⟨fun ds F => call_oK h15 ds F, fun _ => rfl⟩
theorem m15 : M.mode 15 = 0 := rfl
noncomputable def cd15 : Code := match Go.Proofs.Tryz.f15.body with | some c => c | none => .skip
theorem pl15 : plT 15 = [] := rfl
theorem lv15_1 : lvT 15 1 = [0, 4, 5] := rfl
theorem h16 : Has M 16 ((List KeepRec) × Unit) ((List KeepRec)) := ⟨fun _ => rfl, fun _ => rfl⟩
noncomputable def n16 (a0 : (List KeepRec)) : Option ((List KeepRec)) := fnO M 16 ((List KeepRec)) (a0, ())
theorem c16 : (∀ {ρ : Type} (ds : List D) (F : D → Option ρ), ((lastR M).o 16 ds).bind F = (da (α := (List KeepRec) × Unit) ds).bind (callN (fun x => n16 x.1) F)) ∧ ∀ aa, (envOf M aa).S 16 = some (.own ((lastR M).o 16)) := ⟨fun ds F => call_oK h16 ds F, fun _ => rfl⟩
theorem m16 : M.mode 16 = 0 := rfl
noncomputable def cd16 : Code := match Go.Proofs.Tryz.f16.body with | some c => c | none => .skip
theorem pl16 : plT 16 = [] := rfl
theorem h18 : Has M 18 (KeepRec × Unit) (ByteArray) := ⟨fun _ => rfl, fun _ => rfl⟩
noncomputable def n18 (a0 : KeepRec) : Option (ByteArray) := fnO M 18 (ByteArray) (a0, ())
theorem c18 : (∀ {ρ : Type} (ds : List D) (F : D → Option ρ), ((lastR M).o 18 ds).bind F = (da (α := KeepRec × Unit) ds).bind (callN (fun x => n18 x.1) F)) ∧ ∀ aa, (envOf M aa).S 18 = some (.own ((lastR M).o 18)) := ⟨fun ds F => call_oK h18 ds F, fun _ => rfl⟩
theorem m18 : M.mode 18 = 0 := rfl
noncomputable def cd18 : Code := match Go.Proofs.Tryz.f18.body with | some c => c | none => .skip
theorem pl18 : plT 18 = [] := rfl
theorem h24 : Has M 24 ((Pt L14In) × U8 × Unit) (Int × (Pt L14In)) := ⟨fun _ => rfl, fun _ => rfl⟩
noncomputable def n24 (a0 : (Pt L14In)) (a1 : U8) : Option (Int × (Pt L14In)) := fnI M 24 (Int) (a0, a1, ())
theorem c24 : (∀ {ρ : Type} (x : D) (ds : List D) (F : D × D → Option ρ), ((lastR M).i 24 x ds).bind F = (da (α := (Pt L14In) × U8 × Unit) (x :: ds)).bind (callI (fun x => n24 x.1 x.2.1) F)) ∧ ∀ aa, (envOf M aa).S 24 = some (.box ((lastR M).i 24)) := ⟨fun x ds F => call_iK h24 x ds F, fun _ => rfl⟩
theorem m24 : M.mode 24 = 5 := rfl
noncomputable def cd24 : Code := match Go.Proofs.Tryz.f24.body with | some c => c | none => .skip
theorem pl24 : plT 24 = [(7, [0])] := rfl
theorem lv24_2 : lvT 24 2 = [0, 1, 5] := rfl
theorem h25 : Has M 25 (ByteArray × Unit) (KeepRec) := ⟨fun _ => rfl, fun _ => rfl⟩
noncomputable def n25 (a0 : ByteArray) : Option (KeepRec) := fnO M 25 (KeepRec) (a0, ())
theorem c25 : (∀ {ρ : Type} (ds : List D) (F : D → Option ρ), ((lastR M).o 25 ds).bind F = (da (α := ByteArray × Unit) ds).bind (callN (fun x => n25 x.1) F)) ∧ ∀ aa, (envOf M aa).S 25 = some (.own ((lastR M).o 25)) := ⟨fun ds F => call_oK h25 ds F, fun _ => rfl⟩
theorem m25 : M.mode 25 = 0 := rfl
noncomputable def cd25 : Code := match Go.Proofs.Tryz.f25.body with | some c => c | none => .skip
theorem pl25 : plT 25 = [(7, [0, 4, 5, 1004, 1005])] := rfl
theorem lv25_5 : lvT 25 5 = [2, 3, 4, 5, 7] := rfl
theorem h26 : Has M 26 ((Pt L14In) × Int × Unit) (ByteArray × (Pt L14In)) := ⟨fun _ => rfl, fun _ => rfl⟩
noncomputable def n26 (a0 : (Pt L14In)) (a1 : Int) : Option (ByteArray × (Pt L14In)) := fnI M 26 (ByteArray) (a0, a1, ())
theorem c26 : (∀ {ρ : Type} (x : D) (ds : List D) (F : D × D → Option ρ), ((lastR M).i 26 x ds).bind F = (da (α := (Pt L14In) × Int × Unit) (x :: ds)).bind (callI (fun x => n26 x.1 x.2.1) F)) ∧ ∀ aa, (envOf M aa).S 26 = some (.box ((lastR M).i 26)) := ⟨fun x ds F => call_iK h26 x ds F, fun _ => rfl⟩
theorem m26 : M.mode 26 = 5 := rfl
noncomputable def cd26 : Code := match Go.Proofs.Tryz.f26.body with | some c => c | none => .skip
theorem pl26 : plT 26 = [] := rfl
theorem h27 : Has M 27 (KeepRec × Unit) (KeepRec) := ⟨fun _ => rfl, fun _ => rfl⟩
noncomputable def n27 (a0 : KeepRec) : Option (KeepRec) := fnO M 27 (KeepRec) (a0, ())
theorem c27 : (∀ {ρ : Type} (ds : List D) (F : D → Option ρ), ((lastR M).o 27 ds).bind F = (da (α := KeepRec × Unit) ds).bind (callN (fun x => n27 x.1) F)) ∧ ∀ aa, (envOf M aa).S 27 = some (.own ((lastR M).o 27)) := ⟨fun ds F => call_oK h27 ds F, fun _ => rfl⟩
theorem m27 : M.mode 27 = 0 := rfl
noncomputable def cd27 : Code := match Go.Proofs.Tryz.f27.body with | some c => c | none => .skip
theorem pl27 : plT 27 = [] := rfl
theorem h28 : Has M 28 (KeepRec × Unit) (Bool) := ⟨fun _ => rfl, fun _ => rfl⟩
noncomputable def n28 (a0 : KeepRec) : Option (Bool) := fnO M 28 (Bool) (a0, ())
theorem c28 : (∀ {ρ : Type} (ds : List D) (F : D → Option ρ), ((lastR M).o 28 ds).bind F = (da (α := KeepRec × Unit) ds).bind (callN (fun x => n28 x.1) F)) ∧ ∀ aa, (envOf M aa).S 28 = some (.own ((lastR M).o 28)) := ⟨fun ds F => call_oK h28 ds F, fun _ => rfl⟩
theorem m28 : M.mode 28 = 0 := rfl
noncomputable def cd28 : Code := match Go.Proofs.Tryz.f28.body with | some c => c | none => .skip
theorem pl28 : plT 28 = [] := rfl
theorem lv28_4 : lvT 28 4 = [1, 3] := rfl
theorem h29 : Has M 29 (ByteArray × Unit) (ByteArray) := ⟨fun _ => rfl, fun _ => rfl⟩
noncomputable def n29 (a0 : ByteArray) : Option (ByteArray) := fnO M 29 (ByteArray) (a0, ())
theorem c29 : (∀ {ρ : Type} (ds : List D) (F : D → Option ρ), ((lastR M).o 29 ds).bind F = (da (α := ByteArray × Unit) ds).bind (callN (fun x => n29 x.1) F)) ∧ ∀ aa, (envOf M aa).S 29 = some (.own ((lastR M).o 29)) := ⟨fun ds F => call_oK h29 ds F, fun _ => rfl⟩
theorem m29 : M.mode 29 = 0 := rfl
noncomputable def cd29 : Code := match Go.Proofs.Tryz.f29.body with | some c => c | none => .skip
theorem pl29 : plT 29 = [] := rfl
theorem h30 : Has M 30 (Int × Unit) (ByteArray) := ⟨fun _ => rfl, fun _ => rfl⟩
noncomputable def n30 (a0 : Int) : Option (ByteArray) := fnO M 30 (ByteArray) (a0, ())
theorem c30 : (∀ {ρ : Type} (ds : List D) (F : D → Option ρ), ((lastR M).o 30 ds).bind F = (da (α := Int × Unit) ds).bind (callN (fun x => n30 x.1) F)) ∧ ∀ aa, (envOf M aa).S 30 = some (.own ((lastR M).o 30)) := ⟨fun ds F => call_oK h30 ds F, fun _ => rfl⟩
theorem m30 : M.mode 30 = 0 := rfl
noncomputable def cd30 : Code := match Go.Proofs.Tryz.f30.body with | some c => c | none => .skip
theorem pl30 : plT 30 = [] := rfl
theorem lv30_6 : lvT 30 6 = [0, 3] := rfl
theorem h31 : Has M 31 (ByteArray × Unit) (Int) := ⟨fun _ => rfl, fun _ => rfl⟩
noncomputable def n31 (a0 : ByteArray) : Option (Int) := fnO M 31 (Int) (a0, ())
theorem c31 : (∀ {ρ : Type} (ds : List D) (F : D → Option ρ), ((lastR M).o 31 ds).bind F = (da (α := ByteArray × Unit) ds).bind (callN (fun x => n31 x.1) F)) ∧ ∀ aa, (envOf M aa).S 31 = some (.own ((lastR M).o 31)) := ⟨fun ds F => call_oK h31 ds F, fun _ => rfl⟩
theorem m31 : M.mode 31 = 0 := rfl
noncomputable def cd31 : Code := match Go.Proofs.Tryz.f31.body with | some c => c | none => .skip
theorem pl31 : plT 31 = [] := rfl
theorem lv31_3 : lvT 31 3 = [0, 3, 4] := rfl
theorem h32 : Has M 32 (ByteArray × Unit) (KeepRec × Int) := ⟨fun _ => rfl, fun _ => rfl⟩
noncomputable def n32 (a0 : ByteArray) : Option (KeepRec × Int) := fnO M 32 (KeepRec × Int) (a0, ())
theorem c32 : (∀ {ρ : Type} (ds : List D) (F : D → Option ρ), ((lastR M).o 32 ds).bind F = (da (α := ByteArray × Unit) ds).bind (callN (fun x => n32 x.1) F)) ∧ ∀ aa, (envOf M aa).S 32 = some (.own ((lastR M).o 32)) := ⟨fun ds F => call_oK h32 ds F, fun _ => rfl⟩
theorem m32 : M.mode 32 = 0 := rfl
noncomputable def cd32 : Code := match Go.Proofs.Tryz.f32.body with | some c => c | none => .skip
theorem pl32 : plT 32 = [(11, [0, 4, 5, 1004, 1005])] := rfl
theorem lv32_10 : lvT 32 10 = [0, 2, 12, 13, 62, 63] := rfl
theorem h33 : Has M 33 ((List KeepRec) × Unit) ((List KeepRec)) := ⟨fun _ => rfl, fun _ => rfl⟩
noncomputable def n33 (a0 : (List KeepRec)) : Option ((List KeepRec)) := fnO M 33 ((List KeepRec)) (a0, ())
theorem c33 : (∀ {ρ : Type} (ds : List D) (F : D → Option ρ), ((lastR M).o 33 ds).bind F = (da (α := (List KeepRec) × Unit) ds).bind (callN (fun x => n33 x.1) F)) ∧ ∀ aa, (envOf M aa).S 33 = some (.own ((lastR M).o 33)) := ⟨fun ds F => call_oK h33 ds F, fun _ => rfl⟩
theorem m33 : M.mode 33 = 0 := rfl
noncomputable def cd33 : Code := match Go.Proofs.Tryz.f33.body with | some c => c | none => .skip
theorem pl33 : plT 33 = [] := rfl
theorem lv33_3 : lvT 33 3 = [0, 3, 4, 11, 12, 13] := rfl
theorem lv33_8 : lvT 33 8 = [3, 4, 23, 24, 25] := rfl
theorem h35 : Has M 35 (KeepRec × Unit) (Bool) := ⟨fun _ => rfl, fun _ => rfl⟩
noncomputable def n35 (a0 : KeepRec) : Option (Bool) := fnO M 35 (Bool) (a0, ())
theorem c35 : (∀ {ρ : Type} (ds : List D) (F : D → Option ρ), ((lastR M).o 35 ds).bind F = (da (α := KeepRec × Unit) ds).bind (callN (fun x => n35 x.1) F)) ∧ ∀ aa, (envOf M aa).S 35 = some (.own ((lastR M).o 35)) := ⟨fun ds F => call_oK h35 ds F, fun _ => rfl⟩
theorem m35 : M.mode 35 = 0 := rfl
noncomputable def cd35 : Code := match Go.Proofs.Tryz.f35.body with | some c => c | none => .skip
theorem pl35 : plT 35 = [] := rfl
theorem h36 : Has M 36 (KeepRec × Unit) (ByteArray) := ⟨fun _ => rfl, fun _ => rfl⟩
noncomputable def n36 (a0 : KeepRec) : Option (ByteArray) := fnO M 36 (ByteArray) (a0, ())
theorem c36 : (∀ {ρ : Type} (ds : List D) (F : D → Option ρ), ((lastR M).o 36 ds).bind F = (da (α := KeepRec × Unit) ds).bind (callN (fun x => n36 x.1) F)) ∧ ∀ aa, (envOf M aa).S 36 = some (.own ((lastR M).o 36)) := ⟨fun ds F => call_oK h36 ds F, fun _ => rfl⟩
theorem m36 : M.mode 36 = 0 := rfl
noncomputable def cd36 : Code := match Go.Proofs.Tryz.f36.body with | some c => c | none => .skip
theorem pl36 : plT 36 = [] := rfl
theorem lv36_3 : lvT 36 3 = [1, 3, 20, 21, 22] := rfl
theorem h37 : Has M 37 (ByteArray × U8 × Unit) ((List ByteArray)) := ⟨fun _ => rfl, fun _ => rfl⟩
noncomputable def n37 (a0 : ByteArray) (a1 : U8) : Option ((List ByteArray)) := fnO M 37 ((List ByteArray)) (a0, a1, ())
theorem c37 : (∀ {ρ : Type} (ds : List D) (F : D → Option ρ), ((lastR M).o 37 ds).bind F = (da (α := ByteArray × U8 × Unit) ds).bind (callN (fun x => n37 x.1 x.2.1) F)) ∧ ∀ aa, (envOf M aa).S 37 = some (.shared ((lastR M).o 37)) := ⟨fun ds F => call_oK h37 ds F, fun _ => rfl⟩
theorem m37 : M.mode 37 = 1 := rfl
noncomputable def cd37 : Code := match Go.Proofs.Tryz.f37.body with | some c => c | none => .skip
theorem pl37 : plT 37 = [] := rfl
theorem lv37_4 : lvT 37 4 = [0, 1, 5, 6, 7] := rfl
theorem h38 : Has M 38 (ByteArray × Unit) ((List ByteArray)) := ⟨fun _ => rfl, fun _ => rfl⟩
noncomputable def n38 (a0 : ByteArray) : Option ((List ByteArray)) := fnO M 38 ((List ByteArray)) (a0, ())
theorem c38 : (∀ {ρ : Type} (ds : List D) (F : D → Option ρ), ((lastR M).o 38 ds).bind F = (da (α := ByteArray × Unit) ds).bind (callN (fun x => n38 x.1) F)) ∧ ∀ aa, (envOf M aa).S 38 = some (.shared ((lastR M).o 38)) := ⟨fun ds F => call_oK h38 ds F, fun _ => rfl⟩
theorem m38 : M.mode 38 = 1 := rfl
noncomputable def cd38 : Code := match Go.Proofs.Tryz.f38.body with | some c => c | none => .skip
theorem pl38 : plT 38 = [] := rfl
theorem lv38_4 : lvT 38 4 = [3, 4, 5] := rfl
theorem h40 : Has M 40 (ByteArray × Unit) (Int × Bool) := ⟨fun _ => rfl, fun _ => rfl⟩
noncomputable def n40 (a0 : ByteArray) : Option (Int × Bool) := fnO M 40 (Int × Bool) (a0, ())
theorem c40 : (∀ {ρ : Type} (ds : List D) (F : D → Option ρ), ((lastR M).o 40 ds).bind F = (da (α := ByteArray × Unit) ds).bind (callN (fun x => n40 x.1) F)) ∧ ∀ aa, (envOf M aa).S 40 = some (.own ((lastR M).o 40)) := ⟨fun ds F => call_oK h40 ds F, fun _ => rfl⟩
theorem m40 : M.mode 40 = 0 := rfl
noncomputable def cd40 : Code := match Go.Proofs.Tryz.f40.body with | some c => c | none => .skip
theorem pl40 : plT 40 = [] := rfl
theorem lv40_8 : lvT 40 8 = [0, 4, 5, 6] := rfl
theorem h41 : Has M 41 ((List ByteArray) × Unit) (CodeIns) := ⟨fun _ => rfl, fun _ => rfl⟩
noncomputable def n41 (a0 : (List ByteArray)) : Option (CodeIns) := fnO M 41 (CodeIns) (a0, ())
theorem c41 : (∀ {ρ : Type} (ds : List D) (F : D → Option ρ), ((lastR M).o 41 ds).bind F = (da (α := (List ByteArray) × Unit) ds).bind (callN (fun x => n41 x.1) F)) ∧ ∀ aa, (envOf M aa).S 41 = some (.own ((lastR M).o 41)) := ⟨fun ds F => call_oK h41 ds F, fun _ => rfl⟩
theorem m41 : M.mode 41 = 0 := rfl
noncomputable def cd41 : Code := match Go.Proofs.Tryz.f41.body with | some c => c | none => .skip
theorem pl41 : plT 41 = [] := rfl
theorem lv41_2 : lvT 41 2 = [0, 2, 3] := rfl
theorem h45 : Has M 45 (ByteArray × Unit) ((List (List ByteArray))) := ⟨fun _ => rfl, fun _ => rfl⟩
noncomputable def n45 (a0 : ByteArray) : Option ((List (List ByteArray))) := fnO M 45 ((List (List ByteArray))) (a0, ())
theorem c45 : (∀ {ρ : Type} (ds : List D) (F : D → Option ρ), ((lastR M).o 45 ds).bind F = (da (α := ByteArray × Unit) ds).bind (callN (fun x => n45 x.1) F)) ∧ ∀ aa, (envOf M aa).S 45 = some (.shared ((lastR M).o 45)) := ⟨fun ds F => call_oK h45 ds F, fun _ => rfl⟩
theorem m45 : M.mode 45 = 1 := rfl
noncomputable def cd45 : Code := match Go.Proofs.Tryz.f45.body with | some c => c | none => .skip
theorem pl45 : plT 45 = [] := rfl
theorem lv45_3 : lvT 45 3 = [3, 9, 10, 11] := rfl
theorem h46 : Has M 46 (ByteArray × Unit) (Int × Bool) := ⟨fun _ => rfl, fun _ => rfl⟩
noncomputable def n46 (a0 : ByteArray) : Option (Int × Bool) := fnO M 46 (Int × Bool) (a0, ())
theorem c46 : (∀ {ρ : Type} (ds : List D) (F : D → Option ρ), ((lastR M).o 46 ds).bind F = (da (α := ByteArray × Unit) ds).bind (callN (fun x => n46 x.1) F)) ∧ ∀ aa, (envOf M aa).S 46 = some (.own ((lastR M).o 46)) := ⟨fun ds F => call_oK h46 ds F, fun _ => rfl⟩
theorem m46 : M.mode 46 = 0 := rfl
noncomputable def cd46 : Code := match Go.Proofs.Tryz.f46.body with | some c => c | none => .skip
theorem pl46 : plT 46 = [] := rfl
theorem h48 : Has M 48 ((List ByteArray) × Unit) (T3 (List Int) Int Int) := ⟨fun _ => rfl, fun _ => rfl⟩
noncomputable def n48 (a0 : (List ByteArray)) : Option (T3 (List Int) Int Int) := fnO M 48 (T3 (List Int) Int Int) (a0, ())
theorem c48 : (∀ {ρ : Type} (ds : List D) (F : D → Option ρ), ((lastR M).o 48 ds).bind F = (da (α := (List ByteArray) × Unit) ds).bind (callN (fun x => n48 x.1) F)) ∧ ∀ aa, (envOf M aa).S 48 = some (.own ((lastR M).o 48)) := ⟨fun ds F => call_oK h48 ds F, fun _ => rfl⟩
theorem m48 : M.mode 48 = 0 := rfl
noncomputable def cd48 : Code := match Go.Proofs.Tryz.f48.body with | some c => c | none => .skip
theorem pl48 : plT 48 = [] := rfl
theorem h49 : Has M 49 ((List ByteArray) × Unit) (CodeIns) := ⟨fun _ => rfl, fun _ => rfl⟩
noncomputable def n49 (a0 : (List ByteArray)) : Option (CodeIns) := fnO M 49 (CodeIns) (a0, ())
theorem c49 : (∀ {ρ : Type} (ds : List D) (F : D → Option ρ), ((lastR M).o 49 ds).bind F = (da (α := (List ByteArray) × Unit) ds).bind (callN (fun x => n49 x.1) F)) ∧ ∀ aa, (envOf M aa).S 49 = some (.own ((lastR M).o 49)) := ⟨fun ds F => call_oK h49 ds F, fun _ => rfl⟩
theorem m49 : M.mode 49 = 0 := rfl
noncomputable def cd49 : Code := match Go.Proofs.Tryz.f49.body with | some c => c | none => .skip
theorem pl49 : plT 49 = [(2, [0])] := rfl
theorem h53 : Has M 53 ((Pt L14In) × Unit) (ByteArray × (Pt L14In)) := ⟨fun _ => rfl, fun _ => rfl⟩
noncomputable def n53 (a0 : (Pt L14In)) : Option (ByteArray × (Pt L14In)) := fnI M 53 (ByteArray) (a0, ())
theorem c53 : (∀ {ρ : Type} (x : D) (ds : List D) (F : D × D → Option ρ), ((lastR M).i 53 x ds).bind F = (da (α := (Pt L14In) × Unit) (x :: ds)).bind (callI (fun x => n53 x.1) F)) ∧ ∀ aa, (envOf M aa).S 53 = some (.box ((lastR M).i 53)) := ⟨fun x ds F => call_iK h53 x ds F, fun _ => rfl⟩
theorem m53 : M.mode 53 = 5 := rfl
noncomputable def cd53 : Code := match Go.Proofs.Tryz.f53.body with | some c => c | none => .skip
theorem pl53 : plT 53 = [] := rfl
theorem h54 : Has M 54 (ByteArray × Unit) (Bool) := ⟨fun _ => rfl, fun _ => rfl⟩
noncomputable def n54 (a0 : ByteArray) : Option (Bool) := fnO M 54 (Bool) (a0, ())
theorem c54 : (∀ {ρ : Type} (ds : List D) (F : D → Option ρ), ((lastR M).o 54 ds).bind F = (da (α := ByteArray × Unit) ds).bind (callN (fun x => n54 x.1) F)) ∧ ∀ aa, (envOf M aa).S 54 = some (.own ((lastR M).o 54)) := ⟨fun ds F => call_oK h54 ds F, fun _ => rfl⟩
theorem m54 : M.mode 54 = 0 := rfl
noncomputable def cd54 : Code := match Go.Proofs.Tryz.f54.body with | some c => c | none => .skip
theorem pl54 : plT 54 = [] := rfl
theorem lv54_4 : lvT 54 4 = [0, 3] := rfl
theorem h55 : Has M 55 (ByteArray × Unit) ((List FaceSig) × Bool) := ⟨fun _ => rfl, fun _ => rfl⟩
noncomputable def n55 (a0 : ByteArray) : Option ((List FaceSig) × Bool) := fnO M 55 ((List FaceSig) × Bool) (a0, ())
theorem c55 : (∀ {ρ : Type} (ds : List D) (F : D → Option ρ), ((lastR M).o 55 ds).bind F = (da (α := ByteArray × Unit) ds).bind (callN (fun x => n55 x.1) F)) ∧ ∀ aa, (envOf M aa).S 55 = some (.own ((lastR M).o 55)) := ⟨fun ds F => call_oK h55 ds F, fun _ => rfl⟩
theorem m55 : M.mode 55 = 0 := rfl
noncomputable def cd55 : Code := match Go.Proofs.Tryz.f55.body with | some c => c | none => .skip
theorem pl55 : plT 55 = [] := rfl
theorem lv55_6 : lvT 55 6 = [0, 4, 5, 6] := rfl
theorem h56 : Has M 56 (ByteArray × Unit) (CodeObj × Bool) := ⟨fun _ => rfl, fun _ => rfl⟩
noncomputable def n56 (a0 : ByteArray) : Option (CodeObj × Bool) := fnO M 56 (CodeObj × Bool) (a0, ())
theorem c56 : (∀ {ρ : Type} (ds : List D) (F : D → Option ρ), ((lastR M).o 56 ds).bind F = (da (α := ByteArray × Unit) ds).bind (callN (fun x => n56 x.1) F)) ∧ ∀ aa, (envOf M aa).S 56 = some (.own ((lastR M).o 56)) := ⟨fun ds F => call_oK h56 ds F, fun _ => rfl⟩
theorem m56 : M.mode 56 = 0 := rfl
noncomputable def cd56 : Code := match Go.Proofs.Tryz.f56.body with | some c => c | none => .skip
theorem pl56 : plT 56 = [] := rfl
theorem h57 : Has M 57 (Int × Int × Int × Unit) (Bool) := ⟨fun _ => rfl, fun _ => rfl⟩
noncomputable def n57 (a0 : Int) (a1 : Int) (a2 : Int) : Option (Bool) := fnO M 57 (Bool) (a0, a1, a2, ())
theorem c57 : (∀ {ρ : Type} (ds : List D) (F : D → Option ρ), ((lastR M).o 57 ds).bind F = (da (α := Int × Int × Int × Unit) ds).bind (callN (fun x => n57 x.1 x.2.1 x.2.2.1) F)) ∧ ∀ aa, (envOf M aa).S 57 = some (.own ((lastR M).o 57)) := ⟨fun ds F => call_oK h57 ds F, fun _ => rfl⟩
theorem m57 : M.mode 57 = 0 := rfl
noncomputable def cd57 : Code := match Go.Proofs.Tryz.f57.body with | some c => c | none => .skip
theorem pl57 : plT 57 = [] := rfl
theorem h58 : Has M 58 ((Pt Unpacker) × Unit) (ByteArray × (Pt Unpacker)) := ⟨fun _ => rfl, fun _ => rfl⟩
noncomputable def n58 (a0 : (Pt Unpacker)) : Option (ByteArray × (Pt Unpacker)) := fnI M 58 (ByteArray) (a0, ())
theorem c58 : (∀ {ρ : Type} (x : D) (ds : List D) (F : D × D → Option ρ), ((lastR M).i 58 x ds).bind F = (da (α := (Pt Unpacker) × Unit) (x :: ds)).bind (callI (fun x => n58 x.1) F)) ∧ ∀ aa, (envOf M aa).S 58 = some (.box ((lastR M).i 58)) := ⟨fun x ds F => call_iK h58 x ds F, fun _ => rfl⟩
theorem m58 : M.mode 58 = 5 := rfl
noncomputable def cd58 : Code := match Go.Proofs.Tryz.f58.body with | some c => c | none => .skip
theorem pl58 : plT 58 = [] := rfl
theorem h59 : Has M 59 (ByteArray × ByteArray × Unit) (Bool) := ⟨fun _ => rfl, fun _ => rfl⟩
noncomputable def n59 (a0 : ByteArray) (a1 : ByteArray) : Option (Bool) := fnO M 59 (Bool) (a0, a1, ())
theorem c59 : (∀ {ρ : Type} (ds : List D) (F : D → Option ρ), ((lastR M).o 59 ds).bind F = (da (α := ByteArray × ByteArray × Unit) ds).bind (callN (fun x => n59 x.1 x.2.1) F)) ∧ ∀ aa, (envOf M aa).S 59 = some (.own ((lastR M).o 59)) := ⟨fun ds F => call_oK h59 ds F, fun _ => rfl⟩
theorem m59 : M.mode 59 = 0 := rfl
noncomputable def cd59 : Code := match Go.Proofs.Tryz.f59.body with | some c => c | none => .skip
theorem pl59 : plT 59 = [] := rfl
theorem h60 : Has M 60 (KeepRec × Unit) (KeepRec) := ⟨fun _ => rfl, fun _ => rfl⟩
noncomputable def n60 (a0 : KeepRec) : Option (KeepRec) := fnO M 60 (KeepRec) (a0, ())
theorem c60 : (∀ {ρ : Type} (ds : List D) (F : D → Option ρ), ((lastR M).o 60 ds).bind F = (da (α := KeepRec × Unit) ds).bind (callN (fun x => n60 x.1) F)) ∧ ∀ aa, (envOf M aa).S 60 = some (.own ((lastR M).o 60)) := ⟨fun ds F => call_oK h60 ds F, fun _ => rfl⟩
theorem m60 : M.mode 60 = 0 := rfl
noncomputable def cd60 : Code := match Go.Proofs.Tryz.f60.body with | some c => c | none => .skip
theorem pl60 : plT 60 = [] := rfl
theorem h62 : Has M 62 (ByteArray × Unit) (Bool) := ⟨fun _ => rfl, fun _ => rfl⟩
noncomputable def n62 (a0 : ByteArray) : Option (Bool) := fnO M 62 (Bool) (a0, ())
theorem c62 : (∀ {ρ : Type} (ds : List D) (F : D → Option ρ), ((lastR M).o 62 ds).bind F = (da (α := ByteArray × Unit) ds).bind (callN (fun x => n62 x.1) F)) ∧ ∀ aa, (envOf M aa).S 62 = some (.own ((lastR M).o 62)) := ⟨fun ds F => call_oK h62 ds F, fun _ => rfl⟩
theorem m62 : M.mode 62 = 0 := rfl
noncomputable def cd62 : Code := match Go.Proofs.Tryz.f62.body with | some c => c | none => .skip
theorem pl62 : plT 62 = [] := rfl
theorem lv62_2 : lvT 62 2 = [0, 5, 6] := rfl
theorem h63 : Has M 63 (ByteArray × Unit) (Bool) := ⟨fun _ => rfl, fun _ => rfl⟩
noncomputable def n63 (a0 : ByteArray) : Option (Bool) := fnO M 63 (Bool) (a0, ())
theorem c63 : (∀ {ρ : Type} (ds : List D) (F : D → Option ρ), ((lastR M).o 63 ds).bind F = (da (α := ByteArray × Unit) ds).bind (callN (fun x => n63 x.1) F)) ∧ ∀ aa, (envOf M aa).S 63 = some (.own ((lastR M).o 63)) := ⟨fun ds F => call_oK h63 ds F, fun _ => rfl⟩
theorem m63 : M.mode 63 = 0 := rfl
noncomputable def cd63 : Code := match Go.Proofs.Tryz.f63.body with | some c => c | none => .skip
theorem pl63 : plT 63 = [] := rfl
theorem h64 : Has M 64 ((List ByteArray) × Fv × Unit) (Bool) := ⟨fun _ => rfl, fun _ => rfl⟩
noncomputable def n64 (a0 : (List ByteArray)) (a1 : Fv) : Option (Bool) := fnO M 64 (Bool) (a0, a1, ())
theorem c64 : (∀ {ρ : Type} (ds : List D) (F : D → Option ρ), ((lastR M).o 64 ds).bind F = (da (α := (List ByteArray) × Fv × Unit) ds).bind (callN (fun x => n64 x.1 x.2.1) F)) ∧ ∀ aa, (envOf M aa).S 64 = some (.own ((lastR M).o 64)) := ⟨fun ds F => call_oK h64 ds F, fun _ => rfl⟩
theorem m64 : M.mode 64 = 0 := rfl
noncomputable def cd64 : Code := match Go.Proofs.Tryz.f64.body with | some c => c | none => .skip
theorem pl64 : plT 64 = [] := rfl
theorem h65 : Has M 65 (ByteArray × Unit) (Bool) := ⟨fun _ => rfl, fun _ => rfl⟩
noncomputable def n65 (a0 : ByteArray) : Option (Bool) := fnO M 65 (Bool) (a0, ())
theorem c65 : (∀ {ρ : Type} (ds : List D) (F : D → Option ρ), ((lastR M).o 65 ds).bind F = (da (α := ByteArray × Unit) ds).bind (callN (fun x => n65 x.1) F)) ∧ ∀ aa, (envOf M aa).S 65 = some (.own ((lastR M).o 65)) := ⟨fun ds F => call_oK h65 ds F, fun _ => rfl⟩
theorem m65 : M.mode 65 = 0 := rfl
noncomputable def cd65 : Code := match Go.Proofs.Tryz.f65.body with | some c => c | none => .skip
theorem pl65 : plT 65 = [] := rfl
theorem h66 : Has M 66 (ByteArray × Unit) (CodeObj × Bool) := ⟨fun _ => rfl, fun _ => rfl⟩
noncomputable def n66 (a0 : ByteArray) : Option (CodeObj × Bool) := fnO M 66 (CodeObj × Bool) (a0, ())
theorem c66 : (∀ {ρ : Type} (ds : List D) (F : D → Option ρ), ((lastR M).o 66 ds).bind F = (da (α := ByteArray × Unit) ds).bind (callN (fun x => n66 x.1) F)) ∧ ∀ aa, (envOf M aa).S 66 = some (.own ((lastR M).o 66)) := ⟨fun ds F => call_oK h66 ds F, fun _ => rfl⟩
theorem m66 : M.mode 66 = 0 := rfl
noncomputable def cd66 : Code := match Go.Proofs.Tryz.f66.body with | some c => c | none => .skip
theorem pl66 : plT 66 = [(11, [0, 1009, 2009, 4009, 5009, 7009]), (16, [0, 2007, 2008, 3007, 3008, 4007, 4008])] := rfl
theorem lv66_5 : lvT 66 5 = [0, 2, 4, 18, 19, 20] := rfl
theorem h67 : Has M 67 (ByteArray × Unit) (ByteArray) := ⟨fun _ => rfl, fun _ => rfl⟩
noncomputable def n67 (a0 : ByteArray) : Option (ByteArray) := fnO M 67 (ByteArray) (a0, ())
theorem c67 : (∀ {ρ : Type} (ds : List D) (F : D → Option ρ), ((lastR M).o 67 ds).bind F = (da (α := ByteArray × Unit) ds).bind (callN (fun x => n67 x.1) F)) ∧ ∀ aa, (envOf M aa).S 67 = some (.own ((lastR M).o 67)) := ⟨fun ds F => call_oK h67 ds F, fun _ => rfl⟩
theorem m67 : M.mode 67 = 0 := rfl
noncomputable def cd67 : Code := match Go.Proofs.Tryz.f67.body with | some c => c | none => .skip
theorem pl67 : plT 67 = [] := rfl
theorem h69 : Has M 69 (ByteArray × Unit) (Int) := ⟨fun _ => rfl, fun _ => rfl⟩
noncomputable def n69 (a0 : ByteArray) : Option (Int) := fnO M 69 (Int) (a0, ())
theorem c69 : (∀ {ρ : Type} (ds : List D) (F : D → Option ρ), ((lastR M).o 69 ds).bind F = (da (α := ByteArray × Unit) ds).bind (callN (fun x => n69 x.1) F)) ∧ ∀ aa, (envOf M aa).S 69 = some (.own ((lastR M).o 69)) := ⟨fun ds F => call_oK h69 ds F, fun _ => rfl⟩
theorem m69 : M.mode 69 = 0 := rfl
noncomputable def cd69 : Code := match Go.Proofs.Tryz.f69.body with | some c => c | none => .skip
theorem pl69 : plT 69 = [] := rfl
theorem lv69_3 : lvT 69 3 = [0, 3, 6, 7] := rfl
theorem h70 : Has M 70 (ByteArray × U8 × Unit) (Int) := ⟨fun _ => rfl, fun _ => rfl⟩
noncomputable def n70 (a0 : ByteArray) (a1 : U8) : Option (Int) := fnO M 70 (Int) (a0, a1, ())
theorem c70 : (∀ {ρ : Type} (ds : List D) (F : D → Option ρ), ((lastR M).o 70 ds).bind F = (da (α := ByteArray × U8 × Unit) ds).bind (callN (fun x => n70 x.1 x.2.1) F)) ∧ ∀ aa, (envOf M aa).S 70 = some (.own ((lastR M).o 70)) := ⟨fun ds F => call_oK h70 ds F, fun _ => rfl⟩
theorem m70 : M.mode 70 = 0 := rfl
noncomputable def cd70 : Code := match Go.Proofs.Tryz.f70.body with | some c => c | none => .skip
theorem pl70 : plT 70 = [] := rfl
theorem lv70_2 : lvT 70 2 = [0, 1, 5] := rfl
theorem h71 : Has M 71 (ByteArray × Unit) (Int) := ⟨fun _ => rfl, fun _ => rfl⟩
noncomputable def n71 (a0 : ByteArray) : Option (Int) := fnO M 71 (Int) (a0, ())
theorem c71 : (∀ {ρ : Type} (ds : List D) (F : D → Option ρ), ((lastR M).o 71 ds).bind F = (da (α := ByteArray × Unit) ds).bind (callN (fun x => n71 x.1) F)) ∧ ∀ aa, (envOf M aa).S 71 = some (.own ((lastR M).o 71)) := ⟨fun ds F => call_oK h71 ds F, fun _ => rfl⟩
theorem m71 : M.mode 71 = 0 := rfl
noncomputable def cd71 : Code := match Go.Proofs.Tryz.f71.body with | some c => c | none => .skip
theorem pl71 : plT 71 = [] := rfl
theorem lv71_2 : lvT 71 2 = [0, 3] := rfl
theorem h72 : Has M 72 (ByteArray × Unit) ((List Int)) := ⟨fun _ => rfl, fun _ => rfl⟩
noncomputable def n72 (a0 : ByteArray) : Option ((List Int)) := fnO M 72 ((List Int)) (a0, ())
theorem c72 : (∀ {ρ : Type} (ds : List D) (F : D → Option ρ), ((lastR M).o 72 ds).bind F = (da (α := ByteArray × Unit) ds).bind (callN (fun x => n72 x.1) F)) ∧ ∀ aa, (envOf M aa).S 72 = some (.own ((lastR M).o 72)) := ⟨fun ds F => call_oK h72 ds F, fun _ => rfl⟩
theorem m72 : M.mode 72 = 0 := rfl
noncomputable def cd72 : Code := match Go.Proofs.Tryz.f72.body with | some c => c | none => .skip
theorem pl72 : plT 72 = [] := rfl
theorem lv72_6 : lvT 72 6 = [3, 4, 5] := rfl
theorem h73 : Has M 73 (Int × Unit) (ByteArray) := ⟨fun _ => rfl, fun _ => rfl⟩
noncomputable def n73 (a0 : Int) : Option (ByteArray) := fnO M 73 (ByteArray) (a0, ())
theorem c73 : (∀ {ρ : Type} (ds : List D) (F : D → Option ρ), ((lastR M).o 73 ds).bind F = (da (α := Int × Unit) ds).bind (callN (fun x => n73 x.1) F)) ∧ ∀ aa, (envOf M aa).S 73 = some (.own ((lastR M).o 73)) := ⟨fun ds F => call_oK h73 ds F, fun _ => rfl⟩
theorem m73 : M.mode 73 = 0 := rfl
noncomputable def cd73 : Code := match Go.Proofs.Tryz.f73.body with | some c => c | none => .skip
theorem pl73 : plT 73 = [] := rfl
theorem h74 : Has M 74 (CodeFun × Unit) (Bool) := ⟨fun _ => rfl, fun _ => rfl⟩
noncomputable def n74 (a0 : CodeFun) : Option (Bool) := fnO M 74 (Bool) (a0, ())
theorem c74 : (∀ {ρ : Type} (ds : List D) (F : D → Option ρ), ((lastR M).o 74 ds).bind F = (da (α := CodeFun × Unit) ds).bind (callN (fun x => n74 x.1) F)) ∧ ∀ aa, (envOf M aa).S 74 = some (.own ((lastR M).o 74)) := ⟨fun ds F => call_oK h74 ds F, fun _ => rfl⟩
theorem m74 : M.mode 74 = 0 := rfl
noncomputable def cd74 : Code := match Go.Proofs.Tryz.f74.body with | some c => c | none => .skip
theorem pl74 : plT 74 = [] := rfl
theorem lv74_4 : lvT 74 4 = [1, 3] := rfl
theorem lv74_9 : lvT 74 9 = [1, 4] := rfl
theorem h75 : Has M 75 ((List Int) × Unit) (ByteArray) := ⟨fun _ => rfl, fun _ => rfl⟩
noncomputable def n75 (a0 : (List Int)) : Option (ByteArray) := fnO M 75 (ByteArray) (a0, ())
theorem c75 : (∀ {ρ : Type} (ds : List D) (F : D → Option ρ), ((lastR M).o 75 ds).bind F = (da (α := (List Int) × Unit) ds).bind (callN (fun x => n75 x.1) F)) ∧ ∀ aa, (envOf M aa).S 75 = some (.own ((lastR M).o 75)) := ⟨fun ds F => call_oK h75 ds F, fun _ => rfl⟩
theorem m75 : M.mode 75 = 0 := rfl
noncomputable def cd75 : Code := match Go.Proofs.Tryz.f75.body with | some c => c | none => .skip
theorem pl75 : plT 75 = [] := rfl
theorem lv75_3 : lvT 75 3 = [0, 3, 4] := rfl
theorem h76 : Has M 76 (Int × Unit) (ByteArray) := ⟨fun _ => rfl, fun _ => rfl⟩
noncomputable def n76 (a0 : Int) : Option (ByteArray) := fnO M 76 (ByteArray) (a0, ())
theorem c76 : (∀ {ρ : Type} (ds : List D) (F : D → Option ρ), ((lastR M).o 76 ds).bind F = (da (α := Int × Unit) ds).bind (callN (fun x => n76 x.1) F)) ∧ ∀ aa, (envOf M aa).S 76 = some (.own ((lastR M).o 76)) := ⟨fun ds F => call_oK h76 ds F, fun _ => rfl⟩
theorem m76 : M.mode 76 = 0 := rfl
noncomputable def cd76 : Code := match Go.Proofs.Tryz.f76.body with | some c => c | none => .skip
theorem pl76 : plT 76 = [] := rfl
theorem h80 : Has M 80 (ByteArray × ByteArray × Unit) (ByteArray) := ⟨fun _ => rfl, fun _ => rfl⟩
noncomputable def n80 (a0 : ByteArray) (a1 : ByteArray) : Option (ByteArray) := fnO M 80 (ByteArray) (a0, a1, ())
theorem c80 : (∀ {ρ : Type} (ds : List D) (F : D → Option ρ), ((lastR M).o 80 ds).bind F = (da (α := ByteArray × ByteArray × Unit) ds).bind (callN (fun x => n80 x.1 x.2.1) F)) ∧ ∀ aa, (envOf M aa).S 80 = some (.own ((lastR M).o 80)) := ⟨fun ds F => call_oK h80 ds F, fun _ => rfl⟩
theorem m80 : M.mode 80 = 0 := rfl
noncomputable def cd80 : Code := match Go.Proofs.Tryz.f80.body with | some c => c | none => .skip
theorem pl80 : plT 80 = [] := rfl
theorem h83 : Has M 83 (ByteArray × Unit) ((List Int)) := ⟨fun _ => rfl, fun _ => rfl⟩
noncomputable def n83 (a0 : ByteArray) : Option ((List Int)) := fnO M 83 ((List Int)) (a0, ())
theorem c83 : (∀ {ρ : Type} (ds : List D) (F : D → Option ρ), ((lastR M).o 83 ds).bind F = (da (α := ByteArray × Unit) ds).bind (callN (fun x => n83 x.1) F)) ∧ ∀ aa, (envOf M aa).S 83 = some (.own ((lastR M).o 83)) := ⟨fun ds F => call_oK h83 ds F, fun _ => rfl⟩
theorem m83 : M.mode 83 = 0 := rfl
noncomputable def cd83 : Code := match Go.Proofs.Tryz.f83.body with | some c => c | none => .skip
theorem pl83 : plT 83 = [] := rfl
theorem lv83_5 : lvT 83 5 = [3, 11, 12, 13] := rfl
theorem h84 : Has M 84 (ByteArray × Unit) (Int) := ⟨fun _ => rfl, fun _ => rfl⟩
noncomputable def n84 (a0 : ByteArray) : Option (Int) := fnO M 84 (Int) (a0, ())
theorem c84 : (∀ {ρ : Type} (ds : List D) (F : D → Option ρ), ((lastR M).o 84 ds).bind F = (da (α := ByteArray × Unit) ds).bind (callN (fun x => n84 x.1) F)) ∧ ∀ aa, (envOf M aa).S 84 = some (.own ((lastR M).o 84)) := ⟨fun ds F => call_oK h84 ds F, fun _ => rfl⟩
theorem m84 : M.mode 84 = 0 := rfl
noncomputable def cd84 : Code := match Go.Proofs.Tryz.f84.body with | some c => c | none => .skip
theorem pl84 : plT 84 = [] := rfl
theorem h85 : Has M 85 ((List ByteArray) × ByteArray × Unit) (Int) := ⟨fun _ => rfl, fun _ => rfl⟩
noncomputable def n85 (a0 : (List ByteArray)) (a1 : ByteArray) : Option (Int) := fnO M 85 (Int) (a0, a1, ())
theorem c85 : (∀ {ρ : Type} (ds : List D) (F : D → Option ρ), ((lastR M).o 85 ds).bind F = (da (α := (List ByteArray) × ByteArray × Unit) ds).bind (callN (fun x => n85 x.1 x.2.1) F)) ∧ ∀ aa, (envOf M aa).S 85 = some (.own ((lastR M).o 85)) := ⟨fun ds F => call_oK h85 ds F, fun _ => rfl⟩
theorem m85 : M.mode 85 = 0 := rfl
noncomputable def cd85 : Code := match Go.Proofs.Tryz.f85.body with | some c => c | none => .skip
theorem pl85 : plT 85 = [] := rfl
theorem lv85_2 : lvT 85 2 = [0, 1, 7, 8] := rfl
theorem h86 : Has M 86 ((List Int) × Int × Int × Unit) (ByteArray) := ⟨fun _ => rfl, fun _ => rfl⟩
noncomputable def n86 (a0 : (List Int)) (a1 : Int) (a2 : Int) : Option (ByteArray) := fnO M 86 (ByteArray) (a0, a1, a2, ())
theorem c86 : (∀ {ρ : Type} (ds : List D) (F : D → Option ρ), ((lastR M).o 86 ds).bind F = (da (α := (List Int) × Int × Int × Unit) ds).bind (callN (fun x => n86 x.1 x.2.1 x.2.2.1) F)) ∧ ∀ aa, (envOf M aa).S 86 = some (.own ((lastR M).o 86)) := ⟨fun ds F => call_oK h86 ds F, fun _ => rfl⟩
theorem m86 : M.mode 86 = 0 := rfl
noncomputable def cd86 : Code := match Go.Proofs.Tryz.f86.body with | some c => c | none => .skip
theorem pl86 : plT 86 = [] := rfl
theorem h87 : Has M 87 ((List CodeIns) × Unit) (ByteArray) := ⟨fun _ => rfl, fun _ => rfl⟩
noncomputable def n87 (a0 : (List CodeIns)) : Option (ByteArray) := fnO M 87 (ByteArray) (a0, ())
theorem c87 : (∀ {ρ : Type} (ds : List D) (F : D → Option ρ), ((lastR M).o 87 ds).bind F = (da (α := (List CodeIns) × Unit) ds).bind (callN (fun x => n87 x.1) F)) ∧ ∀ aa, (envOf M aa).S 87 = some (.own ((lastR M).o 87)) := ⟨fun ds F => call_oK h87 ds F, fun _ => rfl⟩
theorem m87 : M.mode 87 = 0 := rfl
noncomputable def cd87 : Code := match Go.Proofs.Tryz.f87.body with | some c => c | none => .skip
theorem pl87 : plT 87 = [(5, [0, 9, 1009, 4009])] := rfl
theorem lv87_3 : lvT 87 3 = [3, 6, 7, 8] := rfl
theorem h88 : Has M 88 (ByteArray × (List Int) × Int × Int × Unit) (Bool) := ⟨fun _ => rfl, fun _ => rfl⟩
noncomputable def n88 (a0 : ByteArray) (a1 : (List Int)) (a2 : Int) (a3 : Int) : Option (Bool) := fnO M 88 (Bool) (a0, a1, a2, a3, ())
theorem c88 : (∀ {ρ : Type} (ds : List D) (F : D → Option ρ), ((lastR M).o 88 ds).bind F = (da (α := ByteArray × (List Int) × Int × Int × Unit) ds).bind (callN (fun x => n88 x.1 x.2.1 x.2.2.1 x.2.2.2.1) F)) ∧ ∀ aa, (envOf M aa).S 88 = some (.own ((lastR M).o 88)) := ⟨fun ds F => call_oK h88 ds F, fun _ => rfl⟩
theorem m88 : M.mode 88 = 0 := rfl
noncomputable def cd88 : Code := match Go.Proofs.Tryz.f88.body with | some c => c | none => .skip
theorem pl88 : plT 88 = [] := rfl
theorem h89 : Has M 89 ((List CodeIns) × Fv × Unit) (Bool) := ⟨fun _ => rfl, fun _ => rfl⟩
noncomputable def n89 (a0 : (List CodeIns)) (a1 : Fv) : Option (Bool) := fnO M 89 (Bool) (a0, a1, ())
theorem c89 : (∀ {ρ : Type} (ds : List D) (F : D → Option ρ), ((lastR M).o 89 ds).bind F = (da (α := (List CodeIns) × Fv × Unit) ds).bind (callN (fun x => n89 x.1 x.2.1) F)) ∧ ∀ aa, (envOf M aa).S 89 = some (.own ((lastR M).o 89)) := ⟨fun ds F => call_oK h89 ds F, fun _ => rfl⟩
theorem m89 : M.mode 89 = 0 := rfl
noncomputable def cd89 : Code := match Go.Proofs.Tryz.f89.body with | some c => c | none => .skip
theorem pl89 : plT 89 = [] := rfl
theorem h91 : Has M 91 (CodeIns × Unit) (Bool) := ⟨fun _ => rfl, fun _ => rfl⟩
noncomputable def n91 (a0 : CodeIns) : Option (Bool) := fnO M 91 (Bool) (a0, ())
theorem c91 : (∀ {ρ : Type} (ds : List D) (F : D → Option ρ), ((lastR M).o 91 ds).bind F = (da (α := CodeIns × Unit) ds).bind (callN (fun x => n91 x.1) F)) ∧ ∀ aa, (envOf M aa).S 91 = some (.own ((lastR M).o 91)) := ⟨fun ds F => call_oK h91 ds F, fun _ => rfl⟩
theorem m91 : M.mode 91 = 0 := rfl
noncomputable def cd91 : Code := match Go.Proofs.Tryz.f91.body with | some c => c | none => .skip
theorem pl91 : plT 91 = [] := rfl
theorem h92 : Has M 92 ((List Int) × Fv × Unit) (Bool) := ⟨fun _ => rfl, fun _ => rfl⟩
noncomputable def n92 (a0 : (List Int)) (a1 : Fv) : Option (Bool) := fnO M 92 (Bool) (a0, a1, ())
theorem c92 : (∀ {ρ : Type} (ds : List D) (F : D → Option ρ), ((lastR M).o 92 ds).bind F = (da (α := (List Int) × Fv × Unit) ds).bind (callN (fun x => n92 x.1 x.2.1) F)) ∧ ∀ aa, (envOf M aa).S 92 = some (.own ((lastR M).o 92)) := ⟨fun ds F => call_oK h92 ds F, fun _ => rfl⟩
theorem m92 : M.mode 92 = 0 := rfl
noncomputable def cd92 : Code := match Go.Proofs.Tryz.f92.body with | some c => c | none => .skip
theorem pl92 : plT 92 = [] := rfl
theorem h97 : Has M 97 (ByteArray × Unit) (Bool) := ⟨fun _ => rfl, fun _ => rfl⟩
noncomputable def n97 (a0 : ByteArray) : Option (Bool) := fnO M 97 (Bool) (a0, ())
theorem c97 : (∀ {ρ : Type} (ds : List D) (F : D → Option ρ), ((lastR M).o 97 ds).bind F = (da (α := ByteArray × Unit) ds).bind (callN (fun x => n97 x.1) F)) ∧ ∀ aa, (envOf M aa).S 97 = some (.own ((lastR M).o 97)) := ⟨fun ds F => call_oK h97 ds F, fun _ => rfl⟩
theorem m97 : M.mode 97 = 0 := rfl
noncomputable def cd97 : Code := match Go.Proofs.Tryz.f97.body with | some c => c | none => .skip
theorem pl97 : plT 97 = [] := rfl
theorem lv97_3 : lvT 97 3 = [0, 3, 4] := rfl
theorem h98 : Has M 98 (ByteArray × Unit) (FaceSig) := ⟨fun _ => rfl, fun _ => rfl⟩
noncomputable def n98 (a0 : ByteArray) : Option (FaceSig) := fnO M 98 (FaceSig) (a0, ())
theorem c98 : (∀ {ρ : Type} (ds : List D) (F : D → Option ρ), ((lastR M).o 98 ds).bind F = (da (α := ByteArray × Unit) ds).bind (callN (fun x => n98 x.1) F)) ∧ ∀ aa, (envOf M aa).S 98 = some (.own ((lastR M).o 98)) := ⟨fun ds F => call_oK h98 ds F, fun _ => rfl⟩
theorem m98 : M.mode 98 = 0 := rfl
noncomputable def cd98 : Code := match Go.Proofs.Tryz.f98.body with | some c => c | none => .skip
theorem pl98 : plT 98 = [(5, [0])] := rfl
theorem h99 : Has M 99 ((List FaceSig) × Unit) (Bool) := ⟨fun _ => rfl, fun _ => rfl⟩
noncomputable def n99 (a0 : (List FaceSig)) : Option (Bool) := fnO M 99 (Bool) (a0, ())
theorem c99 : (∀ {ρ : Type} (ds : List D) (F : D → Option ρ), ((lastR M).o 99 ds).bind F = (da (α := (List FaceSig) × Unit) ds).bind (callN (fun x => n99 x.1) F)) ∧ ∀ aa, (envOf M aa).S 99 = some (.own ((lastR M).o 99)) := ⟨fun ds F => call_oK h99 ds F, fun _ => rfl⟩
theorem m99 : M.mode 99 = 0 := rfl
noncomputable def cd99 : Code := match Go.Proofs.Tryz.f99.body with | some c => c | none => .skip
theorem pl99 : plT 99 = [] := rfl
theorem lv99_4 : lvT 99 4 = [0, 3] := rfl
theorem h100 : Has M 100 ((List FaceSig) × Unit) (ByteArray) := ⟨fun _ => rfl, fun _ => rfl⟩
noncomputable def n100 (a0 : (List FaceSig)) : Option (ByteArray) := fnO M 100 (ByteArray) (a0, ())
theorem c100 : (∀ {ρ : Type} (ds : List D) (F : D → Option ρ), ((lastR M).o 100 ds).bind F = (da (α := (List FaceSig) × Unit) ds).bind (callN (fun x => n100 x.1) F)) ∧ ∀ aa, (envOf M aa).S 100 = some (.own ((lastR M).o 100)) := ⟨fun ds F => call_oK h100 ds F, fun _ => rfl⟩
theorem m100 : M.mode 100 = 0 := rfl
noncomputable def cd100 : Code := match Go.Proofs.Tryz.f100.body with | some c => c | none => .skip
theorem pl100 : plT 100 = [] := rfl
theorem lv100_5 : lvT 100 5 = [0, 3, 4] := rfl
theorem h101 : Has M 101 ((List ByteArray) × Unit) (CodeObj) := ⟨fun _ => rfl, fun _ => rfl⟩
noncomputable def n101 (a0 : (List ByteArray)) : Option (CodeObj) := fnO M 101 (CodeObj) (a0, ())
theorem c101 : (∀ {ρ : Type} (ds : List D) (F : D → Option ρ), ((lastR M).o 101 ds).bind F = (da (α := (List ByteArray) × Unit) ds).bind (callN (fun x => n101 x.1) F)) ∧ ∀ aa, (envOf M aa).S 101 = some (.own ((lastR M).o 101)) := ⟨fun ds F => call_oK h101 ds F, fun _ => rfl⟩
theorem m101 : M.mode 101 = 0 := rfl
noncomputable def cd101 : Code := match Go.Proofs.Tryz.f101.body with | some c => c | none => .skip
theorem pl101 : plT 101 = [(10, [0, 15, 1015]), (12, [0, 4, 5, 1004, 1005]), (14, [0, 11, 12, 13, 1011, 1012, 1013, 3011, 3012, 4011, 4012, 6011, 6012, 7011, 7012, 8011, 8012])] := rfl
theorem lv101_3 : lvT 101 3 = [0, 2, 3, 4] := rfl
theorem h102 : Has M 102 (CodeObj × Unit) (Bool) := ⟨fun _ => rfl, fun _ => rfl⟩
noncomputable def n102 (a0 : CodeObj) : Option (Bool) := fnO M 102 (Bool) (a0, ())
theorem c102 : (∀ {ρ : Type} (ds : List D) (F : D → Option ρ), ((lastR M).o 102 ds).bind F = (da (α := CodeObj × Unit) ds).bind (callN (fun x => n102 x.1) F)) ∧ ∀ aa, (envOf M aa).S 102 = some (.own ((lastR M).o 102)) := ⟨fun ds F => call_oK h102 ds F, fun _ => rfl⟩
theorem m102 : M.mode 102 = 0 := rfl
noncomputable def cd102 : Code := match Go.Proofs.Tryz.f102.body with | some c => c | none => .skip
theorem pl102 : plT 102 = [] := rfl
theorem lv102_4 : lvT 102 4 = [1, 3] := rfl
theorem lv102_10 : lvT 102 10 = [1, 4, 5] := rfl
theorem h103 : Has M 103 (CodeObj × Unit) (ByteArray) := ⟨fun _ => rfl, fun _ => rfl⟩
noncomputable def n103 (a0 : CodeObj) : Option (ByteArray) := fnO M 103 (ByteArray) (a0, ())
theorem c103 : (∀ {ρ : Type} (ds : List D) (F : D → Option ρ), ((lastR M).o 103 ds).bind F = (da (α := CodeObj × Unit) ds).bind (callN (fun x => n103 x.1) F)) ∧ ∀ aa, (envOf M aa).S 103 = some (.own ((lastR M).o 103)) := ⟨fun ds F => call_oK h103 ds F, fun _ => rfl⟩
theorem m103 : M.mode 103 = 0 := rfl
noncomputable def cd103 : Code := match Go.Proofs.Tryz.f103.body with | some c => c | none => .skip
theorem pl103 : plT 103 = [] := rfl
theorem lv103_5 : lvT 103 5 = [1, 3, 4] := rfl
theorem lv103_9 : lvT 103 9 = [1, 3, 5] := rfl
theorem lv103_13 : lvT 103 13 = [1, 3, 5, 6] := rfl
theorem h104 : Has M 104 (ByteArray × ByteArray × Unit) (Bool) := ⟨fun _ => rfl, fun _ => rfl⟩
noncomputable def n104 (a0 : ByteArray) (a1 : ByteArray) : Option (Bool) := fnO M 104 (Bool) (a0, a1, ())
theorem c104 : (∀ {ρ : Type} (ds : List D) (F : D → Option ρ), ((lastR M).o 104 ds).bind F = (da (α := ByteArray × ByteArray × Unit) ds).bind (callN (fun x => n104 x.1 x.2.1) F)) ∧ ∀ aa, (envOf M aa).S 104 = some (.own ((lastR M).o 104)) := ⟨fun ds F => call_oK h104 ds F, fun _ => rfl⟩
theorem m104 : M.mode 104 = 0 := rfl
noncomputable def cd104 : Code := match Go.Proofs.Tryz.f104.body with | some c => c | none => .skip
theorem pl104 : plT 104 = [] := rfl
theorem h106 : Has M 106 (ByteArray × Unit) (Bool) := ⟨fun _ => rfl, fun _ => rfl⟩
noncomputable def n106 (a0 : ByteArray) : Option (Bool) := fnO M 106 (Bool) (a0, ())
theorem c106 : (∀ {ρ : Type} (ds : List D) (F : D → Option ρ), ((lastR M).o 106 ds).bind F = (da (α := ByteArray × Unit) ds).bind (callN (fun x => n106 x.1) F)) ∧ ∀ aa, (envOf M aa).S 106 = some (.own ((lastR M).o 106)) := ⟨fun ds F => call_oK h106 ds F, fun _ => rfl⟩
theorem m106 : M.mode 106 = 0 := rfl
noncomputable def cd106 : Code := match Go.Proofs.Tryz.f106.body with | some c => c | none => .skip
theorem pl106 : plT 106 = [] := rfl
theorem h107 : Has M 107 (ByteArray × Unit) ((List FaceSig) × Bool) := ⟨fun _ => rfl, fun _ => rfl⟩
noncomputable def n107 (a0 : ByteArray) : Option ((List FaceSig) × Bool) := fnO M 107 ((List FaceSig) × Bool) (a0, ())
theorem c107 : (∀ {ρ : Type} (ds : List D) (F : D → Option ρ), ((lastR M).o 107 ds).bind F = (da (α := ByteArray × Unit) ds).bind (callN (fun x => n107 x.1) F)) ∧ ∀ aa, (envOf M aa).S 107 = some (.own ((lastR M).o 107)) := ⟨fun ds F => call_oK h107 ds F, fun _ => rfl⟩
theorem m107 : M.mode 107 = 0 := rfl
noncomputable def cd107 : Code := match Go.Proofs.Tryz.f107.body with | some c => c | none => .skip
theorem pl107 : plT 107 = [] := rfl
theorem lv107_3 : lvT 107 3 = [0, 4, 16, 17, 18] := rfl
theorem h108 : Has M 108 ((List ByteArray) × Fv × Unit) (Int) := ⟨fun _ => rfl, fun _ => rfl⟩
noncomputable def n108 (a0 : (List ByteArray)) (a1 : Fv) : Option (Int) := fnO M 108 (Int) (a0, a1, ())
theorem c108 : (∀ {ρ : Type} (ds : List D) (F : D → Option ρ), ((lastR M).o 108 ds).bind F = (da (α := (List ByteArray) × Fv × Unit) ds).bind (callN (fun x => n108 x.1 x.2.1) F)) ∧ ∀ aa, (envOf M aa).S 108 = some (.own ((lastR M).o 108)) := ⟨fun ds F => call_oK h108 ds F, fun _ => rfl⟩
theorem m108 : M.mode 108 = 0 := rfl
noncomputable def cd108 : Code := match Go.Proofs.Tryz.f108.body with | some c => c | none => .skip
theorem pl108 : plT 108 = [] := rfl
theorem lv108_2 : lvT 108 2 = [0, 1, 7, 8] := rfl
theorem h109 : Has M 109 (CodeObj × Unit) (ByteArray) := ⟨fun _ => rfl, fun _ => rfl⟩
noncomputable def n109 (a0 : CodeObj) : Option (ByteArray) := fnO M 109 (ByteArray) (a0, ())
theorem c109 : (∀ {ρ : Type} (ds : List D) (F : D → Option ρ), ((lastR M).o 109 ds).bind F = (da (α := CodeObj × Unit) ds).bind (callN (fun x => n109 x.1) F)) ∧ ∀ aa, (envOf M aa).S 109 = some (.own ((lastR M).o 109)) := ⟨fun ds F => call_oK h109 ds F, fun _ => rfl⟩
theorem m109 : M.mode 109 = 0 := rfl
noncomputable def cd109 : Code := match Go.Proofs.Tryz.f109.body with | some c => c | none => .skip
theorem pl109 : plT 109 = [(16, [0, 14, 19, 1014, 1019, 16000, 17000])] := rfl
theorem lv109_6 : lvT 109 6 = [1, 3, 14, 15, 16] := rfl
theorem lv109_11 : lvT 109 11 = [3, 31, 32, 33] := rfl
theorem h111 : Has M 111 (ByteArray × Unit) (Bool) := ⟨fun _ => rfl, fun _ => rfl⟩
noncomputable def n111 (a0 : ByteArray) : Option (Bool) := fnO M 111 (Bool) (a0, ())
theorem c111 : (∀ {ρ : Type} (ds : List D) (F : D → Option ρ), ((lastR M).o 111 ds).bind F = (da (α := ByteArray × Unit) ds).bind (callN (fun x => n111 x.1) F)) ∧ ∀ aa, (envOf M aa).S 111 = some (.own ((lastR M).o 111)) := ⟨fun ds F => call_oK h111 ds F, fun _ => rfl⟩
theorem m111 : M.mode 111 = 0 := rfl
noncomputable def cd111 : Code := match Go.Proofs.Tryz.f111.body with | some c => c | none => .skip
theorem pl111 : plT 111 = [] := rfl
theorem h112 : Has M 112 (CodeIns × Unit) (Bool) := ⟨fun _ => rfl, fun _ => rfl⟩
noncomputable def n112 (a0 : CodeIns) : Option (Bool) := fnO M 112 (Bool) (a0, ())
theorem c112 : (∀ {ρ : Type} (ds : List D) (F : D → Option ρ), ((lastR M).o 112 ds).bind F = (da (α := CodeIns × Unit) ds).bind (callN (fun x => n112 x.1) F)) ∧ ∀ aa, (envOf M aa).S 112 = some (.own ((lastR M).o 112)) := ⟨fun ds F => call_oK h112 ds F, fun _ => rfl⟩
theorem m112 : M.mode 112 = 0 := rfl
noncomputable def cd112 : Code := match Go.Proofs.Tryz.f112.body with | some c => c | none => .skip
theorem pl112 : plT 112 = [] := rfl
theorem h122 : Has M 122 (ByteArray × ByteArray × Unit) (ByteArray) := ⟨fun _ => rfl, fun _ => rfl⟩
noncomputable def n122 (a0 : ByteArray) (a1 : ByteArray) : Option (ByteArray) := fnO M 122 (ByteArray) (a0, a1, ())
theorem c122 : (∀ {ρ : Type} (ds : List D) (F : D → Option ρ), ((lastR M).o 122 ds).bind F = (da (α := ByteArray × ByteArray × Unit) ds).bind (callN (fun x => n122 x.1 x.2.1) F)) ∧ ∀ aa, (envOf M aa).S 122 = some (.own ((lastR M).o 122)) := ⟨fun ds F => call_oK h122 ds F, fun _ => rfl⟩
theorem m122 : M.mode 122 = 0 := rfl
noncomputable def cd122 : Code := match Go.Proofs.Tryz.f122.body with | some c => c | none => .skip
theorem pl122 : plT 122 = [] := rfl
theorem h126 : Has M 126 ((List Int) × Unit) (ByteArray) := ⟨fun _ => rfl, fun _ => rfl⟩
noncomputable def n126 (a0 : (List Int)) : Option (ByteArray) := fnO M 126 (ByteArray) (a0, ())
theorem c126 : (∀ {ρ : Type} (ds : List D) (F : D → Option ρ), ((lastR M).o 126 ds).bind F = (da (α := (List Int) × Unit) ds).bind (callN (fun x => n126 x.1) F)) ∧ ∀ aa, (envOf M aa).S 126 = some (.own ((lastR M).o 126)) := ⟨fun ds F => call_oK h126 ds F, fun _ => rfl⟩
theorem m126 : M.mode 126 = 0 := rfl
noncomputable def cd126 : Code := match Go.Proofs.Tryz.f126.body with | some c => c | none => .skip
theorem pl126 : plT 126 = [] := rfl
theorem lv126_3 : lvT 126 3 = [3, 7, 8, 9] := rfl
theorem h127 : Has M 127 (Int × Unit) (ByteArray) := ⟨fun _ => rfl, fun _ => rfl⟩
noncomputable def n127 (a0 : Int) : Option (ByteArray) := fnO M 127 (ByteArray) (a0, ())
theorem c127 : (∀ {ρ : Type} (ds : List D) (F : D → Option ρ), ((lastR M).o 127 ds).bind F = (da (α := Int × Unit) ds).bind (callN (fun x => n127 x.1) F)) ∧ ∀ aa, (envOf M aa).S 127 = some (.own ((lastR M).o 127)) := ⟨fun ds F => call_oK h127 ds F, fun _ => rfl⟩
theorem m127 : M.mode 127 = 0 := rfl
noncomputable def cd127 : Code := match Go.Proofs.Tryz.f127.body with | some c => c | none => .skip
theorem pl127 : plT 127 = [] := rfl
theorem h128 : Has M 128 ((List Int) × Unit) (Bool) := ⟨fun _ => rfl, fun _ => rfl⟩
noncomputable def n128 (a0 : (List Int)) : Option (Bool) := fnO M 128 (Bool) (a0, ())
theorem c128 : (∀ {ρ : Type} (ds : List D) (F : D → Option ρ), ((lastR M).o 128 ds).bind F = (da (α := (List Int) × Unit) ds).bind (callN (fun x => n128 x.1) F)) ∧ ∀ aa, (envOf M aa).S 128 = some (.own ((lastR M).o 128)) := ⟨fun ds F => call_oK h128 ds F, fun _ => rfl⟩
theorem m128 : M.mode 128 = 0 := rfl
noncomputable def cd128 : Code := match Go.Proofs.Tryz.f128.body with | some c => c | none => .skip
theorem pl128 : plT 128 = [] := rfl
theorem h129 : Has M 129 (Int × Unit) (Bool) := ⟨fun _ => rfl, fun _ => rfl⟩
noncomputable def n129 (a0 : Int) : Option (Bool) := fnO M 129 (Bool) (a0, ())
theorem c129 : (∀ {ρ : Type} (ds : List D) (F : D → Option ρ), ((lastR M).o 129 ds).bind F = (da (α := Int × Unit) ds).bind (callN (fun x => n129 x.1) F)) ∧ ∀ aa, (envOf M aa).S 129 = some (.own ((lastR M).o 129)) := ⟨fun ds F => call_oK h129 ds F, fun _ => rfl⟩
theorem m129 : M.mode 129 = 0 := rfl
noncomputable def cd129 : Code := match Go.Proofs.Tryz.f129.body with | some c => c | none => .skip
theorem pl129 : plT 129 = [] := rfl
theorem h130 : Has M 130 ((List CodeIns) × Fv × Unit) (Int) := ⟨fun _ => rfl, fun _ => rfl⟩
noncomputable def n130 (a0 : (List CodeIns)) (a1 : Fv) : Option (Int) := fnO M 130 (Int) (a0, a1, ())
theorem c130 : (∀ {ρ : Type} (ds : List D) (F : D → Option ρ), ((lastR M).o 130 ds).bind F = (da (α := (List CodeIns) × Fv × Unit) ds).bind (callN (fun x => n130 x.1 x.2.1) F)) ∧ ∀ aa, (envOf M aa).S 130 = some (.own ((lastR M).o 130)) := ⟨fun ds F => call_oK h130 ds F, fun _ => rfl⟩
theorem m130 : M.mode 130 = 0 := rfl
noncomputable def cd130 : Code := match Go.Proofs.Tryz.f130.body with | some c => c | none => .skip
theorem pl130 : plT 130 = [] := rfl
theorem lv130_2 : lvT 130 2 = [0, 1, 7, 8] := rfl
theorem h131 : Has M 131 (Int × Unit) (Bool) := ⟨fun _ => rfl, fun _ => rfl⟩
noncomputable def n131 (a0 : Int) : Option (Bool) := fnO M 131 (Bool) (a0, ())
theorem c131 : (∀ {ρ : Type} (ds : List D) (F : D → Option ρ), ((lastR M).o 131 ds).bind F = (da (α := Int × Unit) ds).bind (callN (fun x => n131 x.1) F)) ∧ ∀ aa, (envOf M aa).S 131 = some (.own ((lastR M).o 131)) := ⟨fun ds F => call_oK h131 ds F, fun _ => rfl⟩
theorem m131 : M.mode 131 = 0 := rfl
noncomputable def cd131 : Code := match Go.Proofs.Tryz.f131.body with | some c => c | none => .skip
theorem pl131 : plT 131 = [] := rfl
theorem h132 : Has M 132 ((List Int) × Fv × Unit) (Int) := ⟨fun _ => rfl, fun _ => rfl⟩
noncomputable def n132 (a0 : (List Int)) (a1 : Fv) : Option (Int) := fnO M 132 (Int) (a0, a1, ())
theorem c132 : (∀ {ρ : Type} (ds : List D) (F : D → Option ρ), ((lastR M).o 132 ds).bind F = (da (α := (List Int) × Fv × Unit) ds).bind (callN (fun x => n132 x.1 x.2.1) F)) ∧ ∀ aa, (envOf M aa).S 132 = some (.own ((lastR M).o 132)) := ⟨fun ds F => call_oK h132 ds F, fun _ => rfl⟩
theorem m132 : M.mode 132 = 0 := rfl
noncomputable def cd132 : Code := match Go.Proofs.Tryz.f132.body with | some c => c | none => .skip
theorem pl132 : plT 132 = [] := rfl
theorem lv132_2 : lvT 132 2 = [0, 1, 7, 8] := rfl
theorem h137 : Has M 137 (FaceSig × Unit) (Bool) := ⟨fun _ => rfl, fun _ => rfl⟩
noncomputable def n137 (a0 : FaceSig) : Option (Bool) := fnO M 137 (Bool) (a0, ())
theorem c137 : (∀ {ρ : Type} (ds : List D) (F : D → Option ρ), ((lastR M).o 137 ds).bind F = (da (α := FaceSig × Unit) ds).bind (callN (fun x => n137 x.1) F)) ∧ ∀ aa, (envOf M aa).S 137 = some (.own ((lastR M).o 137)) := ⟨fun ds F => call_oK h137 ds F, fun _ => rfl⟩
theorem m137 : M.mode 137 = 0 := rfl
noncomputable def cd137 : Code := match Go.Proofs.Tryz.f137.body with | some c => c | none => .skip
theorem pl137 : plT 137 = [] := rfl
theorem lv137_4 : lvT 137 4 = [1, 3] := rfl
theorem h138 : Has M 138 ((List ByteArray) × Unit) (CodeFun) := ⟨fun _ => rfl, fun _ => rfl⟩
noncomputable def n138 (a0 : (List ByteArray)) : Option (CodeFun) := fnO M 138 (CodeFun) (a0, ())
theorem c138 : (∀ {ρ : Type} (ds : List D) (F : D → Option ρ), ((lastR M).o 138 ds).bind F = (da (α := (List ByteArray) × Unit) ds).bind (callN (fun x => n138 x.1) F)) ∧ ∀ aa, (envOf M aa).S 138 = some (.own ((lastR M).o 138)) := ⟨fun ds F => call_oK h138 ds F, fun _ => rfl⟩
theorem m138 : M.mode 138 = 0 := rfl
noncomputable def cd138 : Code := match Go.Proofs.Tryz.f138.body with | some c => c | none => .skip
theorem pl138 : plT 138 = [(1, [0, 1013, 2013, 4013, 5013, 8013, 9013, 10013, 11013])] := rfl
theorem h139 : Has M 139 (CodeFun × Unit) (ByteArray) := ⟨fun _ => rfl, fun _ => rfl⟩
noncomputable def n139 (a0 : CodeFun) : Option (ByteArray) := fnO M 139 (ByteArray) (a0, ())
theorem c139 : (∀ {ρ : Type} (ds : List D) (F : D → Option ρ), ((lastR M).o 139 ds).bind F = (da (α := CodeFun × Unit) ds).bind (callN (fun x => n139 x.1) F)) ∧ ∀ aa, (envOf M aa).S 139 = some (.own ((lastR M).o 139)) := ⟨fun ds F => call_oK h139 ds F, fun _ => rfl⟩
theorem m139 : M.mode 139 = 0 := rfl
noncomputable def cd139 : Code := match Go.Proofs.Tryz.f139.body with | some c => c | none => .skip
theorem pl139 : plT 139 = [] := rfl
theorem h140 : Has M 140 ((List ByteArray) × ByteArray × Unit) (Bool) := ⟨fun _ => rfl, fun _ => rfl⟩
noncomputable def n140 (a0 : (List ByteArray)) (a1 : ByteArray) : Option (Bool) := fnO M 140 (Bool) (a0, a1, ())
theorem c140 : (∀ {ρ : Type} (ds : List D) (F : D → Option ρ), ((lastR M).o 140 ds).bind F = (da (α := (List ByteArray) × ByteArray × Unit) ds).bind (callN (fun x => n140 x.1 x.2.1) F)) ∧ ∀ aa, (envOf M aa).S 140 = some (.own ((lastR M).o 140)) := ⟨fun ds F => call_oK h140 ds F, fun _ => rfl⟩
theorem m140 : M.mode 140 = 0 := rfl
noncomputable def cd140 : Code := match Go.Proofs.Tryz.f140.body with | some c => c | none => .skip
theorem pl140 : plT 140 = [] := rfl
theorem h141 : Has M 141 ((List FaceSig) × Unit) (Bool) := ⟨fun _ => rfl, fun _ => rfl⟩
noncomputable def n141 (a0 : (List FaceSig)) : Option (Bool) := fnO M 141 (Bool) (a0, ())
theorem c141 : (∀ {ρ : Type} (ds : List D) (F : D → Option ρ), ((lastR M).o 141 ds).bind F = (da (α := (List FaceSig) × Unit) ds).bind (callN (fun x => n141 x.1) F)) ∧ ∀ aa, (envOf M aa).S 141 = some (.own ((lastR M).o 141)) := ⟨fun ds F => call_oK h141 ds F, fun _ => rfl⟩
theorem m141 : M.mode 141 = 0 := rfl
noncomputable def cd141 : Code := match Go.Proofs.Tryz.f141.body with | some c => c | none => .skip
theorem pl141 : plT 141 = [] := rfl
theorem lv141_2 : lvT 141 2 = [0, 5, 6, 7] := rfl
theorem h142 : Has M 142 ((List FaceSig) × Unit) (ByteArray) := ⟨fun _ => rfl, fun _ => rfl⟩
noncomputable def n142 (a0 : (List FaceSig)) : Option (ByteArray) := fnO M 142 (ByteArray) (a0, ())
theorem c142 : (∀ {ρ : Type} (ds : List D) (F : D → Option ρ), ((lastR M).o 142 ds).bind F = (da (α := (List FaceSig) × Unit) ds).bind (callN (fun x => n142 x.1) F)) ∧ ∀ aa, (envOf M aa).S 142 = some (.own ((lastR M).o 142)) := ⟨fun ds F => call_oK h142 ds F, fun _ => rfl⟩
theorem m142 : M.mode 142 = 0 := rfl
noncomputable def cd142 : Code := match Go.Proofs.Tryz.f142.body with | some c => c | none => .skip
theorem pl142 : plT 142 = [(7, [0, 6, 11, 1006, 1011, 8000, 9000])] := rfl
theorem lv142_5 : lvT 142 5 = [3, 9, 10, 11] := rfl
theorem h143 : Has M 143 (CodeObj × Unit) (Bool) := ⟨fun _ => rfl, fun _ => rfl⟩
noncomputable def n143 (a0 : CodeObj) : Option (Bool) := fnO M 143 (Bool) (a0, ())
theorem c143 : (∀ {ρ : Type} (ds : List D) (F : D → Option ρ), ((lastR M).o 143 ds).bind F = (da (α := CodeObj × Unit) ds).bind (callN (fun x => n143 x.1) F)) ∧ ∀ aa, (envOf M aa).S 143 = some (.own ((lastR M).o 143)) := ⟨fun ds F => call_oK h143 ds F, fun _ => rfl⟩
theorem m143 : M.mode 143 = 0 := rfl
noncomputable def cd143 : Code := match Go.Proofs.Tryz.f143.body with | some c => c | none => .skip
theorem pl143 : plT 143 = [] := rfl
theorem lv143_3 : lvT 143 3 = [1, 3, 7, 8, 9] := rfl
theorem h153 : Has M 153 (ByteArray × ByteArray × Unit) (Bool) := ⟨fun _ => rfl, fun _ => rfl⟩
noncomputable def n153 (a0 : ByteArray) (a1 : ByteArray) : Option (Bool) := fnO M 153 (Bool) (a0, a1, ())
theorem c153 : (∀ {ρ : Type} (ds : List D) (F : D → Option ρ), ((lastR M).o 153 ds).bind F = (da (α := ByteArray × ByteArray × Unit) ds).bind (callN (fun x => n153 x.1 x.2.1) F)) ∧ ∀ aa, (envOf M aa).S 153 = some (.own ((lastR M).o 153)) := ⟨fun ds F => call_oK h153 ds F, fun _ => rfl⟩
theorem m153 : M.mode 153 = 0 := rfl
noncomputable def cd153 : Code := match Go.Proofs.Tryz.f153.body with | some c => c | none => .skip
theorem pl153 : plT 153 = [] := rfl
theorem h164 : Has M 164 (Int × Unit) (Bool) := ⟨fun _ => rfl, fun _ => rfl⟩
noncomputable def n164 (a0 : Int) : Option (Bool) := fnO M 164 (Bool) (a0, ())
theorem c164 : (∀ {ρ : Type} (ds : List D) (F : D → Option ρ), ((lastR M).o 164 ds).bind F = (da (α := Int × Unit) ds).bind (callN (fun x => n164 x.1) F)) ∧ ∀ aa, (envOf M aa).S 164 = some (.own ((lastR M).o 164)) := ⟨fun ds F => call_oK h164 ds F, fun _ => rfl⟩
theorem m164 : M.mode 164 = 0 := rfl
noncomputable def cd164 : Code := match Go.Proofs.Tryz.f164.body with | some c => c | none => .skip
theorem pl164 : plT 164 = [] := rfl
theorem h174 : Has M 174 (CodeIns × Unit) (Bool) := ⟨fun _ => rfl, fun _ => rfl⟩
noncomputable def n174 (a0 : CodeIns) : Option (Bool) := fnO M 174 (Bool) (a0, ())
theorem c174 : (∀ {ρ : Type} (ds : List D) (F : D → Option ρ), ((lastR M).o 174 ds).bind F = (da (α := CodeIns × Unit) ds).bind (callN (fun x => n174 x.1) F)) ∧ ∀ aa, (envOf M aa).S 174 = some (.own ((lastR M).o 174)) := ⟨fun ds F => call_oK h174 ds F, fun _ => rfl⟩
theorem m174 : M.mode 174 = 0 := rfl
noncomputable def cd174 : Code := match Go.Proofs.Tryz.f174.body with | some c => c | none => .skip
theorem pl174 : plT 174 = [] := rfl
theorem h175 : Has M 175 ((List CodeRef) × Fv × Unit) (Bool) := ⟨fun _ => rfl, fun _ => rfl⟩
noncomputable def n175 (a0 : (List CodeRef)) (a1 : Fv) : Option (Bool) := fnO M 175 (Bool) (a0, a1, ())
theorem c175 : (∀ {ρ : Type} (ds : List D) (F : D → Option ρ), ((lastR M).o 175 ds).bind F = (da (α := (List CodeRef) × Fv × Unit) ds).bind (callN (fun x => n175 x.1 x.2.1) F)) ∧ ∀ aa, (envOf M aa).S 175 = some (.own ((lastR M).o 175)) := ⟨fun ds F => call_oK h175 ds F, fun _ => rfl⟩
theorem m175 : M.mode 175 = 0 := rfl
noncomputable def cd175 : Code := match Go.Proofs.Tryz.f175.body with | some c => c | none => .skip
theorem pl175 : plT 175 = [] := rfl
theorem h176 : Has M 176 (CodeRef × Unit) (Bool) := ⟨fun _ => rfl, fun _ => rfl⟩
noncomputable def n176 (a0 : CodeRef) : Option (Bool) := fnO M 176 (Bool) (a0, ())
theorem c176 : (∀ {ρ : Type} (ds : List D) (F : D → Option ρ), ((lastR M).o 176 ds).bind F = (da (α := CodeRef × Unit) ds).bind (callN (fun x => n176 x.1) F)) ∧ ∀ aa, (envOf M aa).S 176 = some (.own ((lastR M).o 176)) := ⟨fun ds F => call_oK h176 ds F, fun _ => rfl⟩
theorem m176 : M.mode 176 = 0 := rfl
noncomputable def cd176 : Code := match Go.Proofs.Tryz.f176.body with | some c => c | none => .skip
theorem pl176 : plT 176 = [] := rfl
theorem h194 : Has M 194 ((List CodeRef) × Fv × Unit) (Int) := ⟨fun _ => rfl, fun _ => rfl⟩
noncomputable def n194 (a0 : (List CodeRef)) (a1 : Fv) : Option (Int) := fnO M 194 (Int) (a0, a1, ())
theorem c194 : (∀ {ρ : Type} (ds : List D) (F : D → Option ρ), ((lastR M).o 194 ds).bind F = (da (α := (List CodeRef) × Fv × Unit) ds).bind (callN (fun x => n194 x.1 x.2.1) F)) ∧ ∀ aa, (envOf M aa).S 194 = some (.own ((lastR M).o 194)) := ⟨fun ds F => call_oK h194 ds F, fun _ => rfl⟩
theorem m194 : M.mode 194 = 0 := rfl
noncomputable def cd194 : Code := match Go.Proofs.Tryz.f194.body with | some c => c | none => .skip
theorem pl194 : plT 194 = [] := rfl
theorem lv194_2 : lvT 194 2 = [0, 1, 7, 8] := rfl
end Go.Fs.Se
