/- A part of the proof: an evaluator of the program's code over plain data, proved sound; the equations of its functions; what they compute. No conditions beyond those in the theorems. -/
import Derived.Test.YthabefiddflefaaGreatDoorProg
import Derived.Test.YthabefiddflefaaGreatDoorP4
set_option linter.unusedVariables false
set_option linter.unusedSimpArgs false
set_option linter.constructorNameAsVariable false
set_option linter.unusedSectionVars false
set_option linter.defProp false
set_option maxRecDepth 20000
namespace Go.Fs
def locS := (And.intro (And.intro (And.intro @evW_loop @loc_nil) (And.intro @loc_seq0 @loc_seq1)) (And.intro (And.intro @loc_cond0 @loc_cond1) (And.intro @loc_block @loc_loop)))
def evS := (And.intro (And.intro (And.intro (And.intro (And.intro (And.intro (And.intro (And.intro (And.intro @Go.Fs.evK_seq (And.intro @Go.Fs.evK_block @Go.Fs.evK_skip)) (And.intro @Go.Fs.evK_exit (And.intro @Go.Fs.evK_ret @Go.Fs.evK_cond))) (And.intro (And.intro @Go.Fs.evK_region (And.intro @Go.Fs.regX_nil @Go.Fs.regX_0)) (And.intro @Go.Fs.regX_7 (And.intro @Go.Fs.regX_8 @Go.Fs.pnK_eq)))) (And.intro (And.intro (And.intro @Go.Fs.pnE_3 (And.intro @Go.Fs.pnF_eq @Go.Fs.pnG_eq)) (And.intro @Go.Fs.intsA_n (And.intro @Go.Fs.intsA_i @Go.Fs.pnV_g))) (And.intro (And.intro @Go.Fs.regX_9 (And.intro @Go.Fs.regX_9d @Go.Fs.finK_l)) (And.intro @Go.Fs.finK_r (And.intro @Go.Fs.opsXK_nil @Go.Fs.opsXK_cons))))) (And.intro (And.intro (And.intro (And.intro @Go.Fs.thenXK_l (And.intro @Go.Fs.thenXK_r @Go.Fs.opX.eq_1)) (And.intro @Go.Fs.callX.eq_1 (And.intro @Go.Fs.pxC.eq_1 @Go.Fs.pxC.eq_2))) (And.intro (And.intro @Go.Fs.pxR_po (And.intro @Go.Fs.pxO.eq_1 @Go.Fs.pxP.eq_1)) (And.intro @Go.Fs.pxK_l (And.intro @Go.Fs.pxK_r @Go.Fs.trXK_nil)))) (And.intro (And.intro (And.intro @Go.Fs.trXK_cons (And.intro @Go.Fs.stXK_l @Go.Fs.stXK_r)) (And.intro @Go.Fs.trXK_dep (And.intro @Go.Fs.trXK_free @Go.Fs.sfXK.eq_1))) (And.intro (And.intro @Go.Fs.stepX.eq_1 (And.intro @Go.Fs.endX_n @Go.Fs.endX_s)) (And.intro @Go.Fs.putS_s (And.intro @Go.Fs.putS_n @Go.Fs.thenK_panic)))))) (And.intro (And.intro (And.intro (And.intro (And.intro @Go.Fs.lpK_panic (And.intro @Go.Fs.blkK_panic @Go.Fs.endPI_n)) (And.intro @Go.Fs.endPI_r (And.intro @Go.Fs.outP_l @Go.Fs.isSt.eq_1))) (And.intro (And.intro @Go.Fs.enc_N (And.intro @Go.Fs.dec_N @Go.Fs.dec_Pok)) (And.intro @Go.Fs.poE_ok (And.intro @Go.Fs.poE_pan @Go.Fs.poE_bind)))) (And.intro (And.intro (And.intro @Go.Fs.regK_eq (And.intro @Go.Fs.thenK_normal @Go.Fs.thenK_exit)) (And.intro @Go.Fs.thenK_ret (And.intro @Go.Fs.lpK_normal @Go.Fs.lpK_exit))) (And.intro (And.intro @Go.Fs.lpK_ret (And.intro @Go.Fs.blkK_normal @Go.Fs.blkK_exit)) (And.intro @Go.Fs.blkK_ret (And.intro @Go.Fs.regY_0 @Go.Fs.regY_x))))) (And.intro (And.intro (And.intro (And.intro @Go.Fs.regY_p0 (And.intro @Go.Fs.y0K_nil @Go.Fs.y0K_cons)) (And.intro @Go.Fs.regY_p (And.intro @Go.Fs.regY_f @Go.Fs.yK_nil))) (And.intro (And.intro @Go.Fs.yK_cons (And.intro @Go.Fs.stepY.eq_1 @Go.Fs.wrB.eq_1)) (And.intro @Go.Fs.allP.eq_1 (And.intro @Go.Fs.allP.eq_2 @Go.Fs.endY.eq_1)))) (And.intro (And.intro (And.intro @Go.Fs.chkY.eq_1 (And.intro @Go.Fs.chkZ_mk @Go.Fs.eq_oOb)) (And.intro @Go.Fs.eq_nat (And.intro @List.length_set.{0} @Go.Fs.hRow.eq_1))) (And.intro (And.intro @Go.Fs.keyR.eq_1 (And.intro @Go.Fs.keyR.eq_2 @Go.Fs.rowSame.eq_1)) (And.intro @Go.Fs.rowSame.eq_2 (And.intro @Go.Fs.hKey.eq_1 @Go.Fs.keyE.eq_1))))))) (And.intro (And.intro (And.intro (And.intro (And.intro (And.intro @Go.Fs.keyE.eq_2 (And.intro @Go.Fs.qFn.eq_1 @Go.Fs.evQ.eq_1)) (And.intro @Go.Fs.hInd.eq_1 (And.intro @Go.Fs.isDa.eq_1 @Go.Fs.isDa.eq_2))) (And.intro (And.intro @Go.Fs.isDr.eq_1 (And.intro @Go.Fs.isDr.eq_2 @Go.Fs.isDr.eq_3)) (And.intro @Go.Fs.isQa.eq_1 (And.intro @Go.Fs.isQa.eq_2 @Go.Fs.isQa.eq_3)))) (And.intro (And.intro (And.intro @Go.Fs.lit10S (And.intro @Go.Fs.prsOf.eq_1 @Go.Fs.prsOf.eq_2)) (And.intro @Go.Fs.eq_AV (And.intro @Go.Fs.eq_oAV @List.getElem?_toArray.{0}))) (And.intro (And.intro @List.size_toArray.{0} (And.intro @List.lookup_cons.{0,0} @List.lookup_nil.{0,0})) (And.intro @Option.getD_none.{0} (And.intro @Go.Fs.regE_0 @Go.Fs.regE_g))))) (And.intro (And.intro (And.intro (And.intro @Go.Fs.regE_q (And.intro @Go.Fs.regE_gq @Go.Fs.regE_x)) (And.intro @Go.Fs.gsK_nil (And.intro @Go.Fs.gsK_0 @Go.Fs.gsK_1))) (And.intro (And.intro @Go.Fs.gd1.eq_1 (And.intro @Go.Fs.gd1.eq_2 @Go.Fs.lastD.eq_1)) (And.intro @Go.Fs.lastD.eq_2 (And.intro @Go.Fs.lastD.eq_3 @Go.Fs.segs.eq_1)))) (And.intro (And.intro (And.intro @Go.Fs.segs.eq_2 (And.intro @Go.Fs.segs.eq_3 @Go.Fs.cutB.eq_1)) (And.intro @Go.Fs.cutG.eq_1 (And.intro @Go.Fs.gdB.eq_1 @List.isEmpty_cons.{0}))) (And.intro (And.intro @Option.isSome_some.{0} (And.intro @Option.isSome_none.{0} @List.reverse_cons.{0})) (And.intro @List.reverse_nil.{0} (And.intro @Go.Fs.opsK_nil @Go.Fs.opsK_cons)))))) (And.intro (And.intro (And.intro (And.intro (And.intro @Go.Fs.qsK_nil (And.intro @Go.Fs.qsK_cons @Go.Fs.xsK_nil)) (And.intro @Go.Fs.xsK_cons (And.intro @Go.Fs.gdE_eq @Go.Fs.gdS.eq_1))) (And.intro (And.intro @Go.Fs.dstsOf.eq_1 (And.intro @Go.Fs.forget_at @Go.Fs.asB_b)) (And.intro @Go.Fs.and_some (And.intro @Go.Fs.or_some @Go.Fs.bindB_some)))) (And.intro (And.intro (And.intro @Go.Fs.bindB_none (And.intro @Go.Fs.bindB_bind @Go.Fs.bindB_id)) (And.intro @Go.Fs.bind_id (And.intro @Go.Fs.opG.eq_1 @Go.Fs.opE.eq_1))) (And.intro (And.intro @Go.Fs.qGE.eq_1 (And.intro @Go.Fs.qE.eq_1 @Go.Fs.rdE.eq_1)) (And.intro @Go.Fs.frE.eq_1 (And.intro @Go.Fs.xE.eq_1 @Go.Fs.flB.eq_1))))) (And.intro (And.intro (And.intro (And.intro @Go.Fs.rdB.eq_1 (And.intro @Go.Fs.frB.eq_1 @Go.Fs.scalO.eq_1)) (And.intro @Go.Fs.shaO.eq_1 (And.intro @Go.Fs.valE.eq_1 @Go.Fs.oPut.eq_1))) (And.intro (And.intro @Go.Fs.oPut.eq_2 (And.intro @Go.Fs.ownE.eq_1 @Go.Fs.sharedE.eq_1)) (And.intro @Go.Fs.nestE.eq_1 (And.intro @Go.Fs.ioE3.eq_1 @Go.Fs.ioE2.eq_1)))) (And.intro (And.intro (And.intro @Go.Fs.callE.eq_1 (And.intro @Go.Fs.storeE.eq_1 @Go.Fs.dstAt.eq_1)) (And.intro @Go.Fs.vo_move (And.intro @Go.Fs.vo_assign @Go.Fs.vo_fieldAddr))) (And.intro (And.intro @Go.Fs.vo_indexAddr (And.intro @Go.Fs.vo_index @Go.Fs.vo_binOp)) (And.intro (And.intro @Go.Fs.vo_unOp @Go.Fs.vo_convert) (And.intro @Go.Fs.vo_alloc @Go.Fs.vo_box)))))))) (And.intro (And.intro (And.intro (And.intro (And.intro (And.intro (And.intro @Go.Fs.vo_build (And.intro @Go.Fs.vo_buildSlice @Go.Fs.vo_makeSlice)) (And.intro @Go.Fs.vo_call (And.intro @Go.Fs.vo_load @Go.Fs.vo_extract))) (And.intro (And.intro @Go.Fs.vo_slice (And.intro @Go.Fs.vo_makeFunc @Go.Fs.evP.eq_1)) (And.intro @Go.Fs.pairH.eq_1 (And.intro @Go.Fs.ixC.eq_1 @Go.Fs.boxC.eq_1)))) (And.intro (And.intro (And.intro @Go.Fs.bldC.eq_1 (And.intro @Go.Fs.bslC.eq_1 @Go.Fs.callB.eq_1)) (And.intro @Go.Fs.capsOK.eq_1 (And.intro @Go.Fs.capsOK.eq_2 @Go.Fs.capsOK.eq_3))) (And.intro (And.intro @Go.Fs.capsOK.eq_4 (And.intro @Go.Fs.St.ev.eq_1 @Go.Fs.St.ev.eq_2)) (And.intro @Go.Fs.St.ev.eq_3 (And.intro @Go.Fs.St.ev.eq_4 @Go.Fs.inSt_eq))))) (And.intro (And.intro (And.intro (And.intro @Go.Fs.insL.eq_1 (And.intro @Go.Fs.insL.eq_2 @Go.Fs.inHeap.eq_1)) (And.intro @Go.Fs.inHeap.eq_2 (And.intro @Go.Fs.inHeap.eq_3 @Go.Fs.keyIn_eq))) (And.intro (And.intro @Go.Fs.ovr_eq (And.intro @Go.Fs.inAV.eq_1 @Go.Fs.inAV.eq_2)) (And.intro @Go.Fs.inAV.eq_3 (And.intro @Go.Fs.inAV.eq_4 @Go.Fs.fixZ.eq_1)))) (And.intro (And.intro (And.intro @Go.Fs.fixZ.eq_2 (And.intro @Go.Fs.zargs.eq_1 @Go.Fs.zargs.eq_2)) (And.intro @Go.Fs.zargs.eq_3 (And.intro @Go.Fs.keyOf.eq_1 @Go.Fs.keyOf.eq_2))) (And.intro (And.intro @Go.Fs.freeAll.eq_1 (And.intro @Go.Fs.freeAll.eq_2 @Go.Fs.apart.eq_1)) (And.intro @Go.Fs.nodupB.eq_1 (And.intro @Go.Fs.nodupB.eq_2 @Go.Fs.upd_at)))))) (And.intro (And.intro (And.intro (And.intro (And.intro @Go.Fs.constAV_i (And.intro @Go.Fs.constAV_b @Go.Fs.constAV_s)) (And.intro @Go.Fs.constAV_z (And.intro @Go.Fs.constAV_n @Go.Fs.litS.eq_1))) (And.intro (And.intro @Go.Fs.litS.eq_2 (And.intro @Go.Fs.eqNil_e @Go.Fs.eqNil_n)) (And.intro @Go.Fs.mapv.eq_1 (And.intro @Go.Fs.mapv.eq_2 @Go.Fs.mapv.eq_3)))) (And.intro (And.intro (And.intro @Go.Fs.mapv.eq_4 (And.intro @Go.Fs.kvSet_nil @Go.Fs.mI_nil)) (And.intro @Go.Fs.mI_set (And.intro @Go.Fs.mI_get @Go.Fs.mI_getD))) (And.intro (And.intro @Go.Fs.takeM_d (And.intro @Go.Fs.takeM_r @Go.Fs.takeM_z)) (And.intro @Go.Fs.takeM_m (And.intro @Go.Fs.takeC.eq_1 @Go.Fs.takeD.eq_1))))) (And.intro (And.intro (And.intro (And.intro @Go.Fs.takeD.eq_2 (And.intro @Go.Fs.appC.eq_1 @Go.Fs.bT_eq)) (And.intro @Go.Fs.bdC.eq_1 (And.intro @Go.Fs.bdC.eq_2 @Go.Fs.bdR.eq_1))) (And.intro (And.intro @Go.Fs.bdOb.eq_1 (And.intro @Go.Fs.bdOb.eq_2 @Go.Fs.bW_s)) (And.intro @Go.Fs.bS_n (And.intro @Go.Fs.bxC.eq_1 @Go.Fs.bxC.eq_2)))) (And.intro (And.intro (And.intro @Go.Fs.bxR.eq_1 (And.intro @Go.Fs.bxObs.eq_1 @Go.Fs.opNilC.eq_1)) (And.intro @Go.Fs.opNilC.eq_2 (And.intro @Go.Fs.opNilC.eq_3 @Go.Fs.opNilC.eq_4))) (And.intro (And.intro @Go.Fs.opNilC.eq_5 (And.intro @Go.Fs.vo_nilCheck @Go.Fs.ev2_t)) (And.intro (And.intro @Go.Fs.ev2_i @Go.Fs.ev2_b) (And.intro @Go.Fs.ev2_s @Go.Fs.ev2_z))))))) (And.intro (And.intro (And.intro (And.intro (And.intro (And.intro @Go.Fs.ev2_n (And.intro @Go.Fs.ev2_nl @Go.Fs.gT_0)) (And.intro @Go.Fs.gT_1 (And.intro @Go.Fs.getI_strD @Go.Fs.strD_len))) (And.intro (And.intro @Go.Fs.opW_len (And.intro @Go.Fs.tyW_len @Go.Fs.le_ml3)) (And.intro @Go.Fs.le_ml10 (And.intro @Go.Fs.rows_strD @Go.Fs.inAV_p)))) (And.intro (And.intro (And.intro @Go.Fs.inAV_l (And.intro @Go.Fs.inAV_g @Go.Fs.inHeap_p)) (And.intro @Go.Fs.inHeap_l (And.intro @Go.Fs.inHeap_g @Go.Fs.inHeap_d))) (And.intro (And.intro @Go.Fs.moveV_d (And.intro @Go.Fs.moveV_r @Go.Fs.moveV_z)) (And.intro @Go.Fs.moveV_a (And.intro @Go.Fs.gI10S @Go.Fs.enc_P))))) (And.intro (And.intro (And.intro (And.intro @Go.Fs.dec_P (And.intro @Go.Fs.enc_E @Go.Fs.dec_E)) (And.intro @Go.Fs.cel_E (And.intro @Go.Fs.w_E @Go.Fs.opBin.eq_1))) (And.intro (And.intro @Go.Fs.opBin.eq_2 (And.intro @Go.Fs.opBin.eq_3 @Go.Fs.opBin.eq_4)) (And.intro @Go.Fs.opBin.eq_5 (And.intro @Go.Fs.nilCmp.eq_1 @Go.Fs.nilCmp.eq_2)))) (And.intro (And.intro (And.intro @Go.Fs.nilCmp.eq_3 (And.intro @Go.Fs.opUn.eq_1 @Go.Fs.opUn.eq_2)) (And.intro @Go.Fs.opUn.eq_3 (And.intro @Go.Fs.opConv.eq_def @Go.Fs.opExtract.eq_1))) (And.intro (And.intro @Go.Fs.opExtract.eq_2 (And.intro @Go.Fs.binD.eq_1 @Go.Fs.binD.eq_2)) (And.intro @Go.Fs.binD.eq_3 (And.intro @Go.Fs.binD.eq_4 @Go.Fs.binD.eq_5)))))) (And.intro (And.intro (And.intro (And.intro (And.intro @Go.Fs.binD.eq_6 (And.intro @Go.Fs.binD.eq_7 @Go.Fs.binD.eq_8)) (And.intro @Go.Fs.binD.eq_9 (And.intro @Go.Fs.binD.eq_10 @Go.Fs.binD.eq_11))) (And.intro (And.intro @Go.Fs.binD.eq_12 (And.intro @Go.Fs.binD.eq_13 @Go.Fs.binD.eq_14)) (And.intro @Go.Fs.binD.eq_15 (And.intro @Go.Fs.binD.eq_16 @Go.Fs.binD.eq_17)))) (And.intro (And.intro (And.intro @Go.Fs.binD.eq_18 (And.intro @Go.Fs.binD.eq_19 @Go.Fs.binD.eq_20)) (And.intro @Go.Fs.binD.eq_21 (And.intro @Go.Fs.binD.eq_22 @Go.Fs.binD.eq_23))) (And.intro (And.intro @Go.Fs.binD.eq_24 (And.intro @Go.Fs.opLen.eq_1 @Go.Fs.opLen.eq_2)) (And.intro @Go.Fs.opLen.eq_3 (And.intro @Go.Fs.opLen.eq_4 @Go.Fs.opLen.eq_5))))) (And.intro (And.intro (And.intro (And.intro @Go.Fs.opLen.eq_6 (And.intro @Go.Fs.opIndex.eq_1 @Go.Fs.opField.eq_1)) (And.intro @Go.Fs.opLoad.eq_1 (And.intro @Go.Fs.ixE.eq_1 @Go.Fs.getI_map))) (And.intro (And.intro @Go.Fs.getI_set (And.intro @Go.Fs.lit3S @Go.Fs.gI3S)) (And.intro @Go.Fs.uncL_setI (And.intro @Go.Fs.uncL_setB @Go.Fs.uncL_setS)))) (And.intro (And.intro (And.intro @Int.cast_ofNat_Int (And.intro @Go.Fs.set_get @List.set_set.{0})) (And.intro @Go.Fs.opB2S.eq_1 (And.intro @Go.Fs.byteL.eq_1 @Go.Fs.byteL.eq_2))) (And.intro (And.intro @Go.Fs.byteL.eq_3 (And.intro @Go.Fs.ldE.eq_1 @Go.Fs.ldE.eq_2)) (And.intro (And.intro @Go.Fs.loadE.eq_1 @Go.Fs.loadC.eq_1) (And.intro @Go.Fs.stE.eq_1 @Go.Fs.stE.eq_2))))))))) (And.intro (And.intro (And.intro (And.intro (And.intro (And.intro (And.intro (And.intro @Go.Fs.opMax.eq_1 (And.intro @Go.Fs.opMax.eq_2 @Go.Fs.opMin.eq_1)) (And.intro @Go.Fs.opMin.eq_2 (And.intro @List.getElem?_map.{0,0} @Go.Fs.opStore.eq_1))) (And.intro (And.intro @Go.Fs.opBox.eq_1 (And.intro @Go.Fs.opAlloc.eq_1 @Go.Fs.opMake.eq_1)) (And.intro @Go.Fs.opAppend.eq_1 (And.intro @Go.Fs.opBuildSlice.eq_1 @Go.Fs.opBuild.eq_1)))) (And.intro (And.intro (And.intro @Go.Fs.opSlice.eq_1 (And.intro @Go.Fs.opSlice.eq_2 @Go.Fs.opByte.eq_1)) (And.intro @Go.Fs.opByte.eq_2 (And.intro @Go.Fs.srcA.eq_1 @Go.Fs.srcA.eq_2))) (And.intro (And.intro @Go.Fs.srcA.eq_3 (And.intro @Go.Fs.srcA.eq_4 @Go.Fs.zsc.eq_1)) (And.intro @Go.Fs.zsc.eq_2 (And.intro @Go.Fs.all_I @Go.Fs.all_B))))) (And.intro (And.intro (And.intro (And.intro @Go.Fs.all_S (And.intro @Go.Fs.all_U @Go.Fs.map_dropR)) (And.intro @Go.Fs.map_takeR (And.intro @List.map_append.{0,0} @List.map_set.{0,0}))) (And.intro (And.intro @List.all_append.{0} (And.intro @Go.Fs.dem1.eq_1 @Go.Fs.demote.eq_1)) (And.intro @Go.Fs.demote.eq_2 (And.intro @Go.Fs.demote1.eq_1 @Go.Fs.demote1.eq_2)))) (And.intro (And.intro (And.intro @Go.Fs.demoteL.eq_1 (And.intro @Go.Fs.demoteL.eq_2 @Go.Fs.demAll.eq_1)) (And.intro @Go.Fs.demAll.eq_2 (And.intro @Go.Fs.TK.agg.eq_1 @Go.Fs.TK.agg.eq_2))) (And.intro (And.intro @Go.Fs.TK.agg.eq_3 (And.intro @Go.Fs.TK.agg.eq_4 @Go.Fs.pack.eq_1)) (And.intro @Go.Fs.cellsA.eq_1 (And.intro @Go.Fs.cellsA.eq_2 @Go.Fs.oneA.eq_1)))))) (And.intro (And.intro (And.intro (And.intro (And.intro @Go.Fs.oneA.eq_2 (And.intro @Go.Fs.oneA.eq_3 @Go.Fs.oneA.eq_4)) (And.intro @Go.Fs.oneA.eq_5 (And.intro @Go.Fs.oneA.eq_6 @Go.Fs.oneA.eq_7))) (And.intro (And.intro @Go.Fs.oneA.eq_8 (And.intro @Go.Fs.oneA.eq_9 @Go.Fs.moveCs.eq_1)) (And.intro @Go.Fs.moveCs.eq_2 (And.intro @Go.Fs.moveC.eq_1 @Go.Fs.moveC.eq_2)))) (And.intro (And.intro (And.intro @Go.Fs.moveC.eq_3 (And.intro @Go.Fs.moveC.eq_4 @Go.Fs.moveV.eq_1)) (And.intro @Go.Fs.moveV.eq_2 (And.intro @Go.Fs.moveV.eq_3 @Go.Fs.moveVs.eq_1))) (And.intro (And.intro @Go.Fs.moveVs.eq_2 (And.intro @Go.Fs.scal.eq_1 @Go.Fs.scal.eq_2)) (And.intro @Go.Fs.scal.eq_3 (And.intro @Go.Fs.scal.eq_4 @Go.Fs.scal.eq_5))))) (And.intro (And.intro (And.intro (And.intro @Go.Fs.scal.eq_6 (And.intro @Go.Fs.packD.eq_1 @Go.Fs.packD.eq_2)) (And.intro @Go.Fs.outR.eq_1 (And.intro @Go.Fs.resL.eq_1 @Go.Fs.resL.eq_2))) (And.intro (And.intro @Go.Fs.resL.eq_3 (And.intro @Go.Fs.bnd.eq_1 @Go.Fs.bnd.eq_2)) (And.intro @Go.Fs.bnd.eq_3 (And.intro @Go.Fs.fillA.eq_1 @Go.Fs.fillA.eq_2)))) (And.intro (And.intro (And.intro @Go.Fs.placeT.eq_1 (And.intro @Go.Fs.sizesT.eq_1 @Go.Fs.zeroD.eq_1)) (And.intro @Go.Fs.zeroD.eq_2 (And.intro @Go.Fs.zeroD.eq_3 @Go.Fs.opMkMap.eq_1))) (And.intro (And.intro @Go.Fs.opMapSet.eq_def (And.intro @Go.Fs.opMapGet.eq_def @Go.Fs.mAt.eq_1)) (And.intro (And.intro @Go.Fs.borCE.eq_1 @Go.Fs.borCE.eq_2) (And.intro @Go.Fs.borCsE.eq_1 @Go.Fs.borCsE.eq_2))))))) (And.intro (And.intro (And.intro (And.intro (And.intro (And.intro @Go.Fs.borE.eq_1 (And.intro @Go.Fs.borE.eq_2 @Go.Fs.borE.eq_3)) (And.intro @Go.Fs.borE.eq_4 (And.intro @Go.Fs.borLE.eq_1 @Go.Fs.borLE.eq_2))) (And.intro (And.intro @Go.Fs.borL.eq_1 (And.intro @Go.Fs.borL.eq_2 @Go.Fs.bor.eq_1)) (And.intro @Go.Fs.bor.eq_2 (And.intro @Go.Fs.bor.eq_3 @Go.Fs.borB.eq_1)))) (And.intro (And.intro (And.intro @Go.Fs.borB.eq_2 (And.intro @Go.Fs.borC.eq_1 @Go.Fs.borC.eq_2)) (And.intro @Go.Fs.borC.eq_3 (And.intro @Go.Fs.borC.eq_4 @Go.Fs.borC.eq_5))) (And.intro (And.intro @Go.Fs.borCs.eq_1 (And.intro @Go.Fs.borCs.eq_2 @Go.Fs.borBs.eq_1)) (And.intro @Go.Fs.borBs.eq_2 (And.intro @Go.Fs.keyA.eq_1 @Go.Fs.keyA.eq_2))))) (And.intro (And.intro (And.intro (And.intro @Go.Fs.keyA.eq_3 (And.intro @Go.Fs.keyB.eq_1 @Go.Fs.keyB.eq_2)) (And.intro @Go.Fs.keyC.eq_1 (And.intro @Go.Fs.keyC.eq_2 @Go.Fs.keyC.eq_3))) (And.intro (And.intro @Go.Fs.ioCs.eq_1 (And.intro @Go.Fs.ioCs.eq_2 @Go.Fs.ioCs.eq_3)) (And.intro @Go.Fs.ioCs.eq_4 (And.intro @Go.Fs.ioCs.eq_5 @Go.Fs.ioObs.eq_1)))) (And.intro (And.intro (And.intro @Go.Fs.ioObs.eq_2 (And.intro @Go.Fs.ioObs.eq_3 @Go.Fs.ioObs.eq_4)) (And.intro @Go.Fs.ioD.eq_1 (And.intro @Go.Fs.ioD.eq_2 @Go.Fs.adObs.eq_1))) (And.intro (And.intro @Go.Fs.adObs.eq_2 (And.intro @Go.Fs.adObs.eq_3 @Go.Fs.adCells.eq_1)) (And.intro @Go.Fs.adCells.eq_2 (And.intro @Go.Fs.adCells.eq_3 @Go.Fs.partsD.eq_1)))))) (And.intro (And.intro (And.intro (And.intro (And.intro @Go.Fs.partsD.eq_2 (And.intro @Go.Fs.cellsD.eq_1 @Go.Fs.cellsD.eq_2)) (And.intro @Go.Fs.retAV.eq_1 (And.intro @Go.Fs.retAV.eq_2 @Go.Fs.oneAV.eq_1))) (And.intro (And.intro @Go.Fs.oneAV.eq_2 (And.intro @Go.Fs.tupAV.eq_1 @Go.Fs.tupAV.eq_2)) (And.intro @Go.Fs.updL.eq_1 (And.intro @Go.Fs.mCells.eq_1 @Go.Fs.mCells.eq_2)))) (And.intro (And.intro (And.intro @Go.Fs.mCell.eq_1 (And.intro @Go.Fs.mCell.eq_2 @Go.Fs.frzL.eq_1)) (And.intro @Go.Fs.frzL.eq_2 (And.intro @Go.Fs.frz1.eq_1 @Go.Fs.stL_n))) (And.intro (And.intro @Go.Fs.stL_env (And.intro @Go.Fs.stL_heap @Go.Fs.envL_cons)) (And.intro @Go.Fs.envL_nil (And.intro @Go.Fs.obL_cons @Go.Fs.obL_nil))))) (And.intro (And.intro (And.intro (And.intro @Go.Fs.noM.eq_1 (And.intro @Go.Fs.noM.eq_2 @Go.Fs.noMc.eq_1)) (And.intro @Go.Fs.noMc.eq_2 (And.intro @Go.Fs.noMc.eq_3 @Go.Fs.noMc.eq_4))) (And.intro (And.intro @Go.Fs.noMc.eq_5 (And.intro @Go.Fs.noMc.eq_6 @Go.Fs.noMc.eq_7)) (And.intro @Go.Fs.noMc.eq_8 (And.intro @Go.Fs.noMc.eq_9 @Go.Fs.endK.eq_1)))) (And.intro (And.intro (And.intro @Go.Fs.endKM.eq_1 (And.intro @Go.Fs.endEM.eq_1 @Go.Fs.endEM.eq_2)) (And.intro @Go.Fs.endEM.eq_3 (And.intro @Go.Fs.outM.eq_1 @Go.Fs.moveM.eq_1))) (And.intro (And.intro @Go.Fs.moveM.eq_2 (And.intro @Go.Fs.moveMs.eq_1 @Go.Fs.moveMs.eq_2)) (And.intro (And.intro @Go.Fs.moveMV.eq_1 @Go.Fs.moveMV.eq_2) (And.intro @Go.Fs.moveMVs.eq_1 @Go.Fs.moveMVs.eq_2)))))))) (And.intro (And.intro (And.intro (And.intro (And.intro (And.intro (And.intro @Go.Fs.eatE.eq_1 (And.intro @Go.Fs.eatC.eq_1 @Go.Fs.eatC.eq_2)) (And.intro @Go.Fs.eatR.eq_1 (And.intro @Go.Fs.endI.eq_1 @Go.Fs.outI.eq_1))) (And.intro (And.intro @Go.Fs.decI2.eq_1 (And.intro @Go.Fs.callI_eq @Go.Fs.nestC.eq_1)) (And.intro @List.set_cons_zero.{0} (And.intro @List.set_cons_succ.{0} @Go.Fs.endE.eq_1)))) (And.intro (And.intro (And.intro @Go.Fs.endE.eq_2 (And.intro @Go.Fs.endE.eq_3 @Go.Fs.outO.eq_1)) (And.intro @decide_eq_true_eq (And.intro @Bool.and_eq_true @Bool.or_eq_true))) (And.intro (And.intro @Bool.not_eq_true' (And.intro @decide_true @decide_false)) (And.intro @Go.Fs.enc_I (And.intro @Go.Fs.enc_B @Go.Fs.enc_S))))) (And.intro (And.intro (And.intro (And.intro @Go.Fs.enc_U (And.intro @Go.Fs.enc_F @Go.Fs.enc_L)) (And.intro @Go.Fs.enc_2 (And.intro @Go.Fs.enc_3 @Go.Fs.cel_I))) (And.intro (And.intro @Go.Fs.cel_B (And.intro @Go.Fs.cel_S @Go.Fs.cel_U)) (And.intro @Go.Fs.cel_L (And.intro @Go.Fs.w_I @Go.Fs.w_B)))) (And.intro (And.intro (And.intro @Go.Fs.w_S (And.intro @Go.Fs.w_U @Go.Fs.w_L)) (And.intro @Go.Fs.dec_I (And.intro @Go.Fs.dec_B @Go.Fs.dec_S))) (And.intro (And.intro @Go.Fs.dec_U (And.intro @Go.Fs.dec_F @Go.Fs.dec_L)) (And.intro @Go.Fs.dec_2 (And.intro @Go.Fs.dec_3 @Go.Fs.unc_I)))))) (And.intro (And.intro (And.intro (And.intro (And.intro @Go.Fs.unc_B (And.intro @Go.Fs.unc_S @Go.Fs.unc_U)) (And.intro @Go.Fs.unc_L (And.intro @Go.Fs.uncL_nil @Go.Fs.uncL_cons))) (And.intro (And.intro @Go.Fs.uncL_app (And.intro @Go.Fs.uncL_map @Go.Fs.ea_0)) (And.intro @Go.Fs.ea_C (And.intro @Go.Fs.da_0 @Go.Fs.da_C)))) (And.intro (And.intro (And.intro @Go.Fs.putQ.eq_1 (And.intro @Go.Fs.bindN_some @Go.Fs.bindN_none)) (And.intro @Go.Fs.bindN_bind (And.intro @Go.Fs.bindN_map @Go.Fs.bindN_omap))) (And.intro (And.intro @Go.Fs.bindA (And.intro @Go.Fs.compO_eq @Go.Fs.mapA_bind)) (And.intro @Go.Fs.compM_eq (And.intro @Go.Fs.bind_mapA @Go.Fs.compB_eq))))) (And.intro (And.intro (And.intro (And.intro @Go.Fs.getI_bind (And.intro @Go.Fs.cat_bind @Go.Fs.get_bind)) (And.intro @Go.Fs.callN_eq (And.intro @Go.Fs.qsC.eq_1 @Go.Fs.ite_bind))) (And.intro (And.intro @Option.bind_some.{0,0} (And.intro @Option.bind_none.{0,0} @Option.map_some.{0,0})) (And.intro @Option.map_none.{0,0} (And.intro @Go.Fs.map_mapL @Go.Fs.map_ite)))) (And.intro (And.intro (And.intro @List.map_cons.{0,0} (And.intro @List.map_nil.{0,0} @List.drop_zero.{0})) (And.intro @List.drop_succ_cons.{0} (And.intro @List.take_zero.{0} @List.take_succ_cons.{0}))) (And.intro (And.intro @List.take_nil.{0} (And.intro @List.drop_nil.{0} @List.headD_cons.{0})) (And.intro (And.intro @List.length_cons.{0} @List.length_nil.{0}) (And.intro @List.foldr_cons.{0,0} @List.foldr_nil.{0,0}))))))) (And.intro (And.intro (And.intro (And.intro (And.intro (And.intro @List.flatMap_cons.{0,0} (And.intro @List.flatMap_nil.{0,0} @List.append_nil.{0})) (And.intro @List.nil_append.{0} (And.intro @List.cons_append.{0} @List.all_cons.{0}))) (And.intro (And.intro @List.all_nil.{0} (And.intro @List.any_cons.{0} @List.any_nil.{0})) (And.intro @List.contains_cons.{0} (And.intro @List.contains_nil.{0} @List.getElem?_cons_zero.{0})))) (And.intro (And.intro (And.intro @List.getElem?_cons_succ.{0} (And.intro @List.getElem?_nil.{0} @List.zip_cons_cons.{0,0})) (And.intro @List.zip_nil_left.{0,0} (And.intro @List.getD_cons_zero.{0} @List.getD_cons_succ.{0}))) (And.intro (And.intro @List.isEmpty_nil.{0} (And.intro @List.filterMap_cons.{0,0} @List.filterMap_nil.{0,0})) (And.intro @List.length_map.{0,0} (And.intro @Go.Fs.eq_i64 @Go.Fs.eq_u8))))) (And.intro (And.intro (And.intro (And.intro @false_and (And.intro @and_false @true_or)) (And.intro @or_true (And.intro @false_or @or_false))) (And.intro (And.intro @if_true.{0} (And.intro @if_false.{0} @Int.le_refl)) (And.intro @Nat.zero_add (And.intro @Nat.add_zero @Nat.le_refl)))) (And.intro (And.intro (And.intro @true_and (And.intro @and_true @Bool.and_true)) (And.intro @Bool.true_and (And.intro @Bool.and_false @Bool.false_and))) (And.intro (And.intro @Bool.or_false (And.intro @Bool.or_true @Bool.false_or)) (And.intro @Bool.true_or (And.intro @Bool.not_true @Bool.not_false)))))) (And.intro (And.intro (And.intro (And.intro (And.intro @Bool.false_eq_true (And.intro @Option.getD_some.{0} @Option.isNone_none.{0})) (And.intro @Option.isNone_some.{0} (And.intro @Int.toNat_natCast @Go.Fs.rng_0))) (And.intro (And.intro @Go.Fs.rng_1 (And.intro @Go.Fs.rng_2 @Go.Fs.rng_3)) (And.intro @Go.Fs.rng_4 (And.intro @Go.Fs.rng_5 @Go.Fs.rng_6)))) (And.intro (And.intro (And.intro @Go.Fs.rng_7 (And.intro @Go.Fs.rng_8 @Go.Fs.rng_9)) (And.intro @Go.Fs.rng_10 (And.intro @Go.Fs.rng_11 @Go.Fs.rng_12))) (And.intro (And.intro @Go.Fs.rng_13 (And.intro @Go.Fs.rng_14 @Go.Fs.rng_15)) (And.intro @Go.Fs.rng_16 (And.intro @Go.Fs.rng_17 @Go.Fs.rng_18))))) (And.intro (And.intro (And.intro (And.intro @Go.Fs.rng_19 (And.intro @Go.Fs.rng_20 @Go.Fs.rng_21)) (And.intro @Go.Fs.rng_22 (And.intro @Go.Fs.rng_23 @Go.Fs.chunk_z))) (And.intro (And.intro @Go.Fs.chunk_s (And.intro @Go.Fs.evK_loop @Go.Fs.cid.eq_1)) (And.intro @Go.Fs.cid.eq_2 (And.intro @Go.Fs.cid.eq_3 @Go.Fs.cid.eq_4)))) (And.intro (And.intro (And.intro @Go.Fs.cid.eq_5 (And.intro @Go.Fs.cid.eq_6 @Go.Fs.cid.eq_7)) (And.intro @Go.Fs.evAt.eq_1 (And.intro @Go.Fs.evRAt.eq_1 @Go.Fs.evW_loop))) (And.intro (And.intro @Go.Fs.loc_nil (And.intro @Go.Fs.loc_seq0 @Go.Fs.loc_seq1)) (And.intro (And.intro @Go.Fs.loc_cond0 @Go.Fs.loc_cond1) (And.intro @Go.Fs.loc_block @Go.Fs.loc_loop))))))))))
def rnS := (And.intro (And.intro (And.intro (And.intro (And.intro (And.intro (And.intro @Go.Fs.evK_loop @Go.Fs.cid.eq_1) (And.intro @Go.Fs.cid.eq_2 @Go.Fs.cid.eq_3)) (And.intro (And.intro @Go.Fs.cid.eq_4 @Go.Fs.cid.eq_5) (And.intro @Go.Fs.cid.eq_6 (And.intro @Go.Fs.cid.eq_7 @Go.Fs.rnd.eq_1)))) (And.intro (And.intro (And.intro @Go.Fs.rnd1.eq_1 @Go.Fs.rnd2_e) (And.intro @Go.Fs.rnd3.eq_1 @Go.Fs.noME.eq_1)) (And.intro (And.intro @Go.Fs.noMH.eq_1 @Go.Fs.wkE.eq_1) (And.intro @Go.Fs.wkO.eq_1 (And.intro @Go.Fs.wkC_eq @Go.Fs.keysE.eq_1))))) (And.intro (And.intro (And.intro (And.intro @Go.Fs.keysH.eq_1 @Go.Fs.zsL.eq_1) (And.intro @Go.Fs.zs1.eq_1 @Go.Fs.zcL.eq_1)) (And.intro (And.intro @Go.Fs.zc1.eq_1 @Go.Fs.zboxes.eq_1) (And.intro @Go.Fs.zboxes.eq_2 (And.intro @Go.Fs.zcells.eq_1 @Go.Fs.zcells.eq_2)))) (And.intro (And.intro (And.intro @Go.Fs.zcells.eq_3 @Go.Fs.canon_e) (And.intro @Go.Fs.canon2_e @Go.Fs.fixP_e)) (And.intro (And.intro @Go.Fs.canonGo.eq_1 @Go.Fs.canonGo.eq_2) (And.intro @Go.Fs.keysA.eq_1 (And.intro @Go.Fs.keysA.eq_2 @Go.Fs.keysA.eq_3)))))) (And.intro (And.intro (And.intro (And.intro (And.intro @Go.Fs.keysA.eq_4 @Go.Fs.keysC.eq_1) (And.intro @Go.Fs.keysC.eq_2 @Go.Fs.keysC.eq_3)) (And.intro (And.intro @Go.Fs.keysC.eq_4 @Go.Fs.keysC.eq_5) (And.intro @Go.Fs.keysC.eq_6 (And.intro @Go.Fs.keysC.eq_7 @Go.Fs.keysO.eq_1)))) (And.intro (And.intro (And.intro @Go.Fs.keysO.eq_2 @Go.Fs.mapA.eq_1) (And.intro @Go.Fs.mapA.eq_2 @Go.Fs.mapA.eq_3)) (And.intro (And.intro @Go.Fs.mapA.eq_4 @Go.Fs.mapA.eq_5) (And.intro @Go.Fs.mapA.eq_6 (And.intro @Go.Fs.mapA.eq_7 @Go.Fs.mapA.eq_8))))) (And.intro (And.intro (And.intro (And.intro @Go.Fs.mapA.eq_9 @Go.Fs.mapA.eq_10) (And.intro @Go.Fs.mapA.eq_11 @Go.Fs.mapA.eq_12)) (And.intro (And.intro @Go.Fs.mapA.eq_13 @Go.Fs.mapA.eq_14) (And.intro @Go.Fs.mapL.eq_1 (And.intro @Go.Fs.mapL.eq_2 @Go.Fs.obM.eq_1)))) (And.intro (And.intro (And.intro @Go.Fs.obM.eq_2 @Go.Fs.mapOb.eq_1) (And.intro @Go.Fs.mapOb.eq_2 @Go.Fs.mapOb.eq_3)) (And.intro (And.intro @Go.Fs.mapOb.eq_4 @Go.Fs.mapOb.eq_5) (And.intro @Go.Fs.renOK.eq_1 (And.intro @Go.Fs.nodupB.eq_1 @Go.Fs.nodupB.eq_2))))))) (And.intro (And.intro (And.intro (And.intro (And.intro (And.intro @Go.Fs.fixAA.eq_1 @Go.Fs.fixAA.eq_2) (And.intro @Go.Fs.fixA.eq_1 @Go.Fs.fixA.eq_2)) (And.intro (And.intro @Go.Fs.fixA.eq_3 @Go.Fs.fixA.eq_4) (And.intro @Go.Fs.fixA.eq_5 (And.intro @Go.Fs.fixA.eq_6 @Go.Fs.noM.eq_1)))) (And.intro (And.intro (And.intro @Go.Fs.noM.eq_2 @Go.Fs.noMc.eq_1) (And.intro @Go.Fs.noMc.eq_2 @Go.Fs.noMc.eq_3)) (And.intro (And.intro @Go.Fs.noMc.eq_4 @Go.Fs.noMc.eq_5) (And.intro @Go.Fs.noMc.eq_6 (And.intro @Go.Fs.noMc.eq_7 @Go.Fs.noMc.eq_8))))) (And.intro (And.intro (And.intro (And.intro @Go.Fs.noMc.eq_9 @Go.Fs.noMo.eq_1) (And.intro @Go.Fs.noMo.eq_2 @Go.Fs.ve0S_stL)) (And.intro (And.intro @Go.Fs.ve0o.eq_1 @Go.Fs.ve0o.eq_2) (And.intro @List.foldl_cons.{0,0} (And.intro @List.foldl_nil.{0,0} @List.lookup_cons.{0,0})))) (And.intro (And.intro (And.intro @List.lookup_nil.{0,0} @List.flatMap_cons.{0,0}) (And.intro @List.flatMap_nil.{0,0} @List.any_nil.{0})) (And.intro (And.intro @List.any_cons.{0} @List.map_cons.{0,0}) (And.intro @List.map_nil.{0,0} (And.intro @List.all_nil.{0} @List.all_cons.{0})))))) (And.intro (And.intro (And.intro (And.intro (And.intro @List.contains_cons.{0} @List.contains_nil.{0}) (And.intro @List.append_nil.{0} @List.nil_append.{0})) (And.intro (And.intro @List.cons_append.{0} @List.getElem?_cons_zero.{0}) (And.intro @List.getElem?_cons_succ.{0} (And.intro @List.getElem?_nil.{0} @List.set_cons_zero.{0})))) (And.intro (And.intro (And.intro @List.set_cons_succ.{0} @Go.Fs.forget_at) (And.intro @Go.Fs.dstsOf.eq_1 @Go.Fs.putQ.eq_1)) (And.intro (And.intro @Go.Fs.gdS.eq_1 @Go.Fs.upd_at) (And.intro @if_true.{0} (And.intro @if_false.{0} @Bool.or_false))))) (And.intro (And.intro (And.intro (And.intro @Bool.or_true @Bool.true_or) (And.intro @Bool.false_or @Bool.not_false)) (And.intro (And.intro @Bool.not_true @Bool.false_eq_true) (And.intro @Bool.and_true (And.intro @Bool.true_and @and_true)))) (And.intro (And.intro (And.intro @true_and @Option.bind_some.{0,0}) (And.intro @Option.bind_none.{0,0} (And.intro @Go.Fs.stL_n @Go.Fs.stL_env))) (And.intro (And.intro @Go.Fs.stL_heap @Go.Fs.envL_cons) (And.intro @Go.Fs.envL_nil (And.intro @Go.Fs.obL_cons @Go.Fs.obL_nil))))))))
end Go.Fs
namespace Go.Fs
open Cel (cel unc)
open Dat (enc dec)
open Arg (ea da)
structure WholeSrc where
 name : ByteArray
 text : ByteArray
 deriving Inhabited
def uncWholeSrc : List D → Option WholeSrc
 | [d0, d1] => (dec d0).bind fun x_name => (dec d1).bind fun x_text => some ⟨x_name, x_text⟩
 | _ => none
instance : Cel WholeSrc where
 cel x := [enc x.name, enc x.text]
 unc := uncWholeSrc
 w := 2
 unc_cel x := by
  obtain ⟨x_name, x_text⟩ := x
  simp only [uncWholeSrc, Dat.dec_enc, Option.bind_some]
 cel_unc ds x h := by
  unfold uncWholeSrc at h
  split at h
  ·simp only [Option.bind_eq_some_iff, Option.some.injEq] at h
   obtain ⟨y_name, h_name, y_text, h_text, rfl⟩ := h
   have k_name := Dat.enc_dec _ _ h_name
   have k_text := Dat.enc_dec _ _ h_text
   simp only [k_name, k_text]
  ·cases h
 len x := by simp only [List.length_cons, List.length_nil, List.length_append]
instance : Dat WholeSrc := datOf
theorem w_WholeSrc : Cel.w WholeSrc = 2 := rfl
theorem cel_WholeSrc (x : WholeSrc) : cel x = [enc x.name, enc x.text] := rfl
theorem unc_WholeSrc (d0 d1 : D) : unc (α := WholeSrc) [d0, d1] = (dec d0).bind fun x_name => (dec d1).bind fun x_text => some ⟨x_name, x_text⟩ := rfl
theorem enc_WholeSrc (x : WholeSrc) : enc x = .g (cel x) := rfl
theorem dec_WholeSrc (ds : List D) : dec (α := WholeSrc) (.g ds) = unc ds := rfl
theorem eta_WholeSrc (x : WholeSrc) : (⟨x.name, x.text⟩ : WholeSrc) = x := by cases x; rfl
theorem all_WholeSrc (xs : List WholeSrc) : (xs.map cel).all (fun x => x.all scal) = true := all_scal (fun _ => rfl) xs
structure GraphNode where
 name : ByteArray
 uses : (List ByteArray)
 deriving Inhabited
def uncGraphNode : List D → Option GraphNode
 | [d0, d1] => (dec d0).bind fun x_name => (dec d1).bind fun x_uses => some ⟨x_name, x_uses⟩
 | _ => none
instance : Cel GraphNode where
 cel x := [enc x.name, enc x.uses]
 unc := uncGraphNode
 w := 2
 unc_cel x := by
  obtain ⟨x_name, x_uses⟩ := x
  simp only [uncGraphNode, Dat.dec_enc, Option.bind_some]
 cel_unc ds x h := by
  unfold uncGraphNode at h
  split at h
  ·simp only [Option.bind_eq_some_iff, Option.some.injEq] at h
   obtain ⟨y_name, h_name, y_uses, h_uses, rfl⟩ := h
   have k_name := Dat.enc_dec _ _ h_name
   have k_uses := Dat.enc_dec _ _ h_uses
   simp only [k_name, k_uses]
  ·cases h
 len x := by simp only [List.length_cons, List.length_nil, List.length_append]
instance : Dat GraphNode := datOf
theorem w_GraphNode : Cel.w GraphNode = 2 := rfl
theorem cel_GraphNode (x : GraphNode) : cel x = [enc x.name, enc x.uses] := rfl
theorem unc_GraphNode (d0 d1 : D) : unc (α := GraphNode) [d0, d1] = (dec d0).bind fun x_name => (dec d1).bind fun x_uses => some ⟨x_name, x_uses⟩ := rfl
theorem enc_GraphNode (x : GraphNode) : enc x = .g (cel x) := rfl
theorem dec_GraphNode (ds : List D) : dec (α := GraphNode) (.g ds) = unc ds := rfl
theorem eta_GraphNode (x : GraphNode) : (⟨x.name, x.uses⟩ : GraphNode) = x := by cases x; rfl
structure TreeArg where
 name : ByteArray
 type : Int
 deriving Inhabited
def uncTreeArg : List D → Option TreeArg
 | [d0, d1] => (dec d0).bind fun x_name => (dec d1).bind fun x_type => some ⟨x_name, x_type⟩
 | _ => none
instance : Cel TreeArg where
 cel x := [enc x.name, enc x.type]
 unc := uncTreeArg
 w := 2
 unc_cel x := by
  obtain ⟨x_name, x_type⟩ := x
  simp only [uncTreeArg, Dat.dec_enc, Option.bind_some]
 cel_unc ds x h := by
  unfold uncTreeArg at h
  split at h
  ·simp only [Option.bind_eq_some_iff, Option.some.injEq] at h
   obtain ⟨y_name, h_name, y_type, h_type, rfl⟩ := h
   have k_name := Dat.enc_dec _ _ h_name
   have k_type := Dat.enc_dec _ _ h_type
   simp only [k_name, k_type]
  ·cases h
 len x := by simp only [List.length_cons, List.length_nil, List.length_append]
instance : Dat TreeArg := datOf
theorem w_TreeArg : Cel.w TreeArg = 2 := rfl
theorem cel_TreeArg (x : TreeArg) : cel x = [enc x.name, enc x.type] := rfl
theorem unc_TreeArg (d0 d1 : D) : unc (α := TreeArg) [d0, d1] = (dec d0).bind fun x_name => (dec d1).bind fun x_type => some ⟨x_name, x_type⟩ := rfl
theorem enc_TreeArg (x : TreeArg) : enc x = .g (cel x) := rfl
theorem dec_TreeArg (ds : List D) : dec (α := TreeArg) (.g ds) = unc ds := rfl
theorem eta_TreeArg (x : TreeArg) : (⟨x.name, x.type⟩ : TreeArg) = x := by cases x; rfl
theorem all_TreeArg (xs : List TreeArg) : (xs.map cel).all (fun x => x.all scal) = true := all_scal (fun _ => rfl) xs
structure TreeExpr where
 kind : Int
 num : Int
 name : ByteArray
 mod : ByteArray
 kids : (List TreeExpr)
mutual
def TreeExpr.cel' : TreeExpr → List D
 | ⟨k, n, s, m, ks⟩ => [.i .i64 k, .i .i64 n, .s s, .s m, .l 5 (TreeExpr.celL ks)]
def TreeExpr.celL : List TreeExpr → List (List D)
 | [] => []
 | e :: es => TreeExpr.cel' e :: TreeExpr.celL es
end
mutual
def TreeExpr.unc' : List D → Option TreeExpr
 | [.i .i64 k, .i .i64 n, .s s, .s m, .l 5 ks] => (TreeExpr.uncL' ks).map fun es => ⟨k, n, s, m, es⟩
 | _ => none
def TreeExpr.uncL' : List (List D) → Option (List TreeExpr)
 | [] => some []
 | e :: es => (TreeExpr.unc' e).bind fun x => (TreeExpr.uncL' es).map (x :: ·)
end
mutual
theorem TreeExpr.unc_cel' : ∀ e : TreeExpr, TreeExpr.unc' (TreeExpr.cel' e) = some e
 | ⟨k, n, s, m, ks⟩ => by simp only [TreeExpr.cel', TreeExpr.unc', TreeExpr.unc_celL ks, Option.map_some]
theorem TreeExpr.unc_celL : ∀ es : List TreeExpr, TreeExpr.uncL' (TreeExpr.celL es) = some es
 | [] => by simp only [TreeExpr.celL, TreeExpr.uncL']
 | e :: es => by simp only [TreeExpr.celL, TreeExpr.uncL', TreeExpr.unc_cel' e, Option.bind_some, TreeExpr.unc_celL es, Option.map_some]
end
mutual
theorem TreeExpr.cel_unc' : ∀ (ds : List D) (e : TreeExpr), TreeExpr.unc' ds = some e → ds = TreeExpr.cel' e
 | [.i .i64 k, .i .i64 n, .s s, .s m, .l 5 ks], e, h => by
  simp only [TreeExpr.unc', Option.map_eq_some_iff] at h
  obtain ⟨es, h, rfl⟩ := h
  simp only [TreeExpr.cel', TreeExpr.cel_uncL ks es h]
 | [], e, h => by simp [TreeExpr.unc'] at h
 | ds, e, h => by
  unfold TreeExpr.unc' at h
  split at h
  ·rename_i k n s m ks
   simp only [Option.map_eq_some_iff] at h
   obtain ⟨es, h, rfl⟩ := h
   simp only [TreeExpr.cel', TreeExpr.cel_uncL ks es h]
  ·cases h
theorem TreeExpr.cel_uncL : ∀ (ds : List (List D)) (es : List TreeExpr), TreeExpr.uncL' ds = some es → ds = TreeExpr.celL es
 | [], es, h => by simp only [TreeExpr.uncL', Option.some.injEq] at h; subst h; rfl
 | d :: ds, es, h => by
  simp only [TreeExpr.uncL', Option.bind_eq_some_iff, Option.map_eq_some_iff] at h
  obtain ⟨x, h1, xs, h2, rfl⟩ := h
  rw [TreeExpr.celL, TreeExpr.cel_unc' d x h1, TreeExpr.cel_uncL ds xs h2]
end
instance : Cel TreeExpr := ⟨TreeExpr.cel', TreeExpr.unc', 5, TreeExpr.unc_cel', TreeExpr.cel_unc', fun e => by cases e; rfl⟩
theorem TreeExpr.celL_map : ∀ es : List TreeExpr, TreeExpr.celL es = es.map cel
 | [] => rfl
 | e :: es => by rw [TreeExpr.celL, TreeExpr.celL_map es]; rfl
instance : Dat TreeExpr := datOf
instance : Inhabited TreeExpr := ⟨⟨0, 0, .empty, .empty, []⟩⟩
theorem cel_TreeExpr' (x : TreeExpr) : cel x = [enc x.kind, enc x.num, enc x.name, enc x.mod, enc x.kids] := by
 obtain ⟨k, n, s, m, ks⟩ := x
 show TreeExpr.cel' _ = _
 simp only [TreeExpr.cel', TreeExpr.celL_map]
 rfl
theorem unc_TreeExpr' (d0 d1 d2 d3 d4 : D) : unc (α := TreeExpr) [d0, d1, d2, d3, d4] = (dec d0).bind fun x_kind => (dec d1).bind fun x_num => (dec d2).bind fun x_name => (dec d3).bind fun x_mod => (dec d4).bind fun x_kids => some ⟨x_kind, x_num, x_name, x_mod, x_kids⟩ := by
 apply Option.ext
 intro e
 constructor
 ·intro h
  have h2 := Cel.cel_unc _ _ h
  rw [cel_TreeExpr'] at h2
  simp only [List.cons.injEq, and_true] at h2
  obtain ⟨rfl, rfl, rfl, rfl, rfl⟩ := h2
  simp only [Dat.dec_enc, Option.bind_some]
  cases e; rfl
 ·intro h
  simp only [Option.bind_eq_some_iff, Option.some.injEq] at h
  obtain ⟨k, h1, n, h2, s, h3, m, h4, ks, h5, rfl⟩ := h
  rw [Dat.enc_dec _ _ h1, Dat.enc_dec _ _ h2, Dat.enc_dec _ _ h3, Dat.enc_dec _ _ h4, Dat.enc_dec _ _ h5]
  have := Cel.unc_cel (⟨k, n, s, m, ks⟩ : TreeExpr)
  rw [cel_TreeExpr'] at this
  exact this
theorem w_TreeExpr : Cel.w TreeExpr = 5 := rfl
theorem cel_TreeExpr (x : TreeExpr) : cel x = [enc x.kind, enc x.num, enc x.name, enc x.mod, enc x.kids] := cel_TreeExpr' x
theorem unc_TreeExpr (d0 d1 d2 d3 d4 : D) : unc (α := TreeExpr) [d0, d1, d2, d3, d4] = (dec d0).bind fun x_kind => (dec d1).bind fun x_num => (dec d2).bind fun x_name => (dec d3).bind fun x_mod => (dec d4).bind fun x_kids => some ⟨x_kind, x_num, x_name, x_mod, x_kids⟩ := unc_TreeExpr' d0 d1 d2 d3 d4
theorem enc_TreeExpr (x : TreeExpr) : enc x = .g (cel x) := rfl
theorem dec_TreeExpr (ds : List D) : dec (α := TreeExpr) (.g ds) = unc ds := rfl
theorem eta_TreeExpr (x : TreeExpr) : (⟨x.kind, x.num, x.name, x.mod, x.kids⟩ : TreeExpr) = x := by cases x; rfl
structure TreeFun where
 name : ByteArray
 pub : Bool
 args : (List TreeArg)
 type : Int
 body : TreeExpr
 deriving Inhabited
def uncTreeFun : List D → Option TreeFun
 | [d0, d1, d2, d3, d4, d5, d6, d7, d8] => (dec d0).bind fun x_name => (dec d1).bind fun x_pub => (dec d2).bind fun x_args => (dec d3).bind fun x_type => (unc [d4, d5, d6, d7, d8]).bind fun x_body => some ⟨x_name, x_pub, x_args, x_type, x_body⟩
 | _ => none
instance : Cel TreeFun where
 cel x := [enc x.name, enc x.pub, enc x.args, enc x.type] ++ cel x.body
 unc := uncTreeFun
 w := 9
 unc_cel x := by
  obtain ⟨x_name, x_pub, x_args, x_type, x_body⟩ := x
  have h_body := Cel.unc_cel x_body
  have l_body := Cel.len x_body
  obtain ⟨e_body0, e_body1, e_body2, e_body3, e_body4, e_body⟩ := len5 l_body
  rw [e_body] at h_body
  simp only [e_body, List.cons_append, List.nil_append, List.append_nil]
  simp only [uncTreeFun, Dat.dec_enc, Option.bind_some, h_body]
 cel_unc ds x h := by
  unfold uncTreeFun at h
  split at h
  ·simp only [Option.bind_eq_some_iff, Option.some.injEq] at h
   obtain ⟨y_name, h_name, y_pub, h_pub, y_args, h_args, y_type, h_type, y_body, h_body, rfl⟩ := h
   have k_name := Dat.enc_dec _ _ h_name
   have k_pub := Dat.enc_dec _ _ h_pub
   have k_args := Dat.enc_dec _ _ h_args
   have k_type := Dat.enc_dec _ _ h_type
   have k_body := Cel.cel_unc _ _ h_body
   simp only [k_name, k_pub, k_args, k_type, ← k_body, List.cons_append, List.nil_append]
  ·cases h
 len x := by simp only [List.length_cons, List.length_nil, List.length_append, Cel.len x.body, show Cel.w TreeExpr = 5 from rfl]
instance : Dat TreeFun := datOf
theorem w_TreeFun : Cel.w TreeFun = 9 := rfl
theorem cel_TreeFun (x : TreeFun) : cel x = [enc x.name, enc x.pub, enc x.args, enc x.type] ++ cel x.body := rfl
theorem unc_TreeFun (d0 d1 d2 d3 d4 d5 d6 d7 d8 : D) : unc (α := TreeFun) [d0, d1, d2, d3, d4, d5, d6, d7, d8] = (dec d0).bind fun x_name => (dec d1).bind fun x_pub => (dec d2).bind fun x_args => (dec d3).bind fun x_type => (unc [d4, d5, d6, d7, d8]).bind fun x_body => some ⟨x_name, x_pub, x_args, x_type, x_body⟩ := rfl
theorem enc_TreeFun (x : TreeFun) : enc x = .g (cel x) := rfl
theorem dec_TreeFun (ds : List D) : dec (α := TreeFun) (.g ds) = unc ds := rfl
theorem eta_TreeFun (x : TreeFun) : (⟨x.name, x.pub, x.args, x.type, x.body⟩ : TreeFun) = x := by cases x; rfl
structure TreeMod where
 uses : (List ByteArray)
 funs : (List TreeFun)
 main : (List TreeExpr)
 deriving Inhabited
def uncTreeMod : List D → Option TreeMod
 | [d0, d1, d2] => (dec d0).bind fun x_uses => (dec d1).bind fun x_funs => (dec d2).bind fun x_main => some ⟨x_uses, x_funs, x_main⟩
 | _ => none
instance : Cel TreeMod where
 cel x := [enc x.uses, enc x.funs, enc x.main]
 unc := uncTreeMod
 w := 3
 unc_cel x := by
  obtain ⟨x_uses, x_funs, x_main⟩ := x
  simp only [uncTreeMod, Dat.dec_enc, Option.bind_some]
 cel_unc ds x h := by
  unfold uncTreeMod at h
  split at h
  ·simp only [Option.bind_eq_some_iff, Option.some.injEq] at h
   obtain ⟨y_uses, h_uses, y_funs, h_funs, y_main, h_main, rfl⟩ := h
   have k_uses := Dat.enc_dec _ _ h_uses
   have k_funs := Dat.enc_dec _ _ h_funs
   have k_main := Dat.enc_dec _ _ h_main
   simp only [k_uses, k_funs, k_main]
  ·cases h
 len x := by simp only [List.length_cons, List.length_nil, List.length_append]
instance : Dat TreeMod := datOf
theorem w_TreeMod : Cel.w TreeMod = 3 := rfl
theorem cel_TreeMod (x : TreeMod) : cel x = [enc x.uses, enc x.funs, enc x.main] := rfl
theorem unc_TreeMod (d0 d1 d2 : D) : unc (α := TreeMod) [d0, d1, d2] = (dec d0).bind fun x_uses => (dec d1).bind fun x_funs => (dec d2).bind fun x_main => some ⟨x_uses, x_funs, x_main⟩ := rfl
theorem enc_TreeMod (x : TreeMod) : enc x = .g (cel x) := rfl
theorem dec_TreeMod (ds : List D) : dec (α := TreeMod) (.g ds) = unc ds := rfl
theorem eta_TreeMod (x : TreeMod) : (⟨x.uses, x.funs, x.main⟩ : TreeMod) = x := by cases x; rfl
structure WholeFile where
 name : ByteArray
 text : ByteArray
 mod : TreeMod
 code : Int
 deriving Inhabited
def uncWholeFile : List D → Option WholeFile
 | [d0, d1, d2, d3, d4, d5] => (dec d0).bind fun x_name => (dec d1).bind fun x_text => (unc [d2, d3, d4]).bind fun x_mod => (dec d5).bind fun x_code => some ⟨x_name, x_text, x_mod, x_code⟩
 | _ => none
instance : Cel WholeFile where
 cel x := [enc x.name, enc x.text] ++ cel x.mod ++ [enc x.code]
 unc := uncWholeFile
 w := 6
 unc_cel x := by
  obtain ⟨x_name, x_text, x_mod, x_code⟩ := x
  have h_mod := Cel.unc_cel x_mod
  have l_mod := Cel.len x_mod
  obtain ⟨e_mod0, e_mod1, e_mod2, e_mod⟩ := len3 l_mod
  rw [e_mod] at h_mod
  simp only [e_mod, List.cons_append, List.nil_append, List.append_nil]
  simp only [uncWholeFile, Dat.dec_enc, Option.bind_some, h_mod]
 cel_unc ds x h := by
  unfold uncWholeFile at h
  split at h
  ·simp only [Option.bind_eq_some_iff, Option.some.injEq] at h
   obtain ⟨y_name, h_name, y_text, h_text, y_mod, h_mod, y_code, h_code, rfl⟩ := h
   have k_name := Dat.enc_dec _ _ h_name
   have k_text := Dat.enc_dec _ _ h_text
   have k_mod := Cel.cel_unc _ _ h_mod
   have k_code := Dat.enc_dec _ _ h_code
   simp only [k_name, k_text, k_code, ← k_mod, List.cons_append, List.nil_append]
  ·cases h
 len x := by simp only [List.length_cons, List.length_nil, List.length_append, Cel.len x.mod, show Cel.w TreeMod = 3 from rfl]
instance : Dat WholeFile := datOf
theorem w_WholeFile : Cel.w WholeFile = 6 := rfl
theorem cel_WholeFile (x : WholeFile) : cel x = [enc x.name, enc x.text] ++ cel x.mod ++ [enc x.code] := rfl
theorem unc_WholeFile (d0 d1 d2 d3 d4 d5 : D) : unc (α := WholeFile) [d0, d1, d2, d3, d4, d5] = (dec d0).bind fun x_name => (dec d1).bind fun x_text => (unc [d2, d3, d4]).bind fun x_mod => (dec d5).bind fun x_code => some ⟨x_name, x_text, x_mod, x_code⟩ := rfl
theorem enc_WholeFile (x : WholeFile) : enc x = .g (cel x) := rfl
theorem dec_WholeFile (ds : List D) : dec (α := WholeFile) (.g ds) = unc ds := rfl
theorem eta_WholeFile (x : WholeFile) : (⟨x.name, x.text, x.mod, x.code⟩ : WholeFile) = x := by cases x; rfl
structure L2In where
 w : (List ByteArray)
 at_ : Int
 bad : Bool
 deriving Inhabited
def uncL2In : List D → Option L2In
 | [d0, d1, d2] => (dec d0).bind fun x_w => (dec d1).bind fun x_at_ => (dec d2).bind fun x_bad => some ⟨x_w, x_at_, x_bad⟩
 | _ => none
instance : Cel L2In where
 cel x := [enc x.w, enc x.at_, enc x.bad]
 unc := uncL2In
 w := 3
 unc_cel x := by
  obtain ⟨x_w, x_at_, x_bad⟩ := x
  simp only [uncL2In, Dat.dec_enc, Option.bind_some]
 cel_unc ds x h := by
  unfold uncL2In at h
  split at h
  ·simp only [Option.bind_eq_some_iff, Option.some.injEq] at h
   obtain ⟨y_w, h_w, y_at_, h_at_, y_bad, h_bad, rfl⟩ := h
   have k_w := Dat.enc_dec _ _ h_w
   have k_at_ := Dat.enc_dec _ _ h_at_
   have k_bad := Dat.enc_dec _ _ h_bad
   simp only [k_w, k_at_, k_bad]
  ·cases h
 len x := by simp only [List.length_cons, List.length_nil, List.length_append]
instance : Dat L2In := datOf
theorem w_L2In : Cel.w L2In = 3 := rfl
theorem cel_L2In (x : L2In) : cel x = [enc x.w, enc x.at_, enc x.bad] := rfl
theorem unc_L2In (d0 d1 d2 : D) : unc (α := L2In) [d0, d1, d2] = (dec d0).bind fun x_w => (dec d1).bind fun x_at_ => (dec d2).bind fun x_bad => some ⟨x_w, x_at_, x_bad⟩ := rfl
theorem enc_L2In (x : L2In) : enc x = .g (cel x) := rfl
theorem dec_L2In (ds : List D) : dec (α := L2In) (.g ds) = unc ds := rfl
theorem eta_L2In (x : L2In) : (⟨x.w, x.at_, x.bad⟩ : L2In) = x := by cases x; rfl
structure Reader where
 words : (List ByteArray)
 deriving Inhabited
def uncReader : List D → Option Reader
 | [d0] => (dec d0).bind fun x_words => some ⟨x_words⟩
 | _ => none
instance : Cel Reader where
 cel x := [enc x.words]
 unc := uncReader
 w := 1
 unc_cel x := by
  obtain ⟨x_words⟩ := x
  simp only [uncReader, Dat.dec_enc, Option.bind_some]
 cel_unc ds x h := by
  unfold uncReader at h
  split at h
  ·simp only [Option.bind_eq_some_iff, Option.some.injEq] at h
   obtain ⟨y_words, h_words, rfl⟩ := h
   have k_words := Dat.enc_dec _ _ h_words
   simp only [k_words]
  ·cases h
 len x := by simp only [List.length_cons, List.length_nil, List.length_append]
instance : Dat Reader := datOf
theorem w_Reader : Cel.w Reader = 1 := rfl
theorem cel_Reader (x : Reader) : cel x = [enc x.words] := rfl
theorem unc_Reader (d0 : D) : unc (α := Reader) [d0] = (dec d0).bind fun x_words => some ⟨x_words⟩ := rfl
theorem enc_Reader (x : Reader) : enc x = .g (cel x) := rfl
theorem dec_Reader (ds : List D) : dec (α := Reader) (.g ds) = unc ds := rfl
theorem eta_Reader (x : Reader) : (⟨x.words⟩ : Reader) = x := by cases x; rfl
def tyS := (And.intro (And.intro (And.intro (And.intro (And.intro @all_WholeSrc (And.intro @w_WholeSrc @cel_WholeSrc)) (And.intro (And.intro @unc_WholeSrc @enc_WholeSrc) (And.intro @dec_WholeSrc @eta_WholeSrc))) (And.intro (And.intro @w_GraphNode (And.intro @cel_GraphNode @unc_GraphNode)) (And.intro (And.intro @enc_GraphNode @dec_GraphNode) (And.intro @eta_GraphNode @all_TreeArg)))) (And.intro (And.intro (And.intro @w_TreeArg (And.intro @cel_TreeArg @unc_TreeArg)) (And.intro (And.intro @enc_TreeArg @dec_TreeArg) (And.intro @eta_TreeArg @w_TreeExpr))) (And.intro (And.intro @cel_TreeExpr (And.intro @unc_TreeExpr @enc_TreeExpr)) (And.intro (And.intro @dec_TreeExpr @eta_TreeExpr) (And.intro @w_TreeFun @cel_TreeFun))))) (And.intro (And.intro (And.intro (And.intro @unc_TreeFun (And.intro @enc_TreeFun @dec_TreeFun)) (And.intro (And.intro @eta_TreeFun @w_TreeMod) (And.intro @cel_TreeMod @unc_TreeMod))) (And.intro (And.intro @enc_TreeMod (And.intro @dec_TreeMod @eta_TreeMod)) (And.intro (And.intro @w_WholeFile @cel_WholeFile) (And.intro @unc_WholeFile @enc_WholeFile)))) (And.intro (And.intro (And.intro @dec_WholeFile (And.intro @eta_WholeFile @w_L2In)) (And.intro (And.intro @cel_L2In @unc_L2In) (And.intro @enc_L2In @dec_L2In))) (And.intro (And.intro @eta_L2In (And.intro @w_Reader @cel_Reader)) (And.intro (And.intro @unc_Reader @enc_Reader) (And.intro @dec_Reader @eta_Reader))))))
end Go.Fs
namespace Go.Fs.Se
open Go.Proofs.Tryz (prog)
def tab : Tab := { types := [(1, ⟨1, 8, .ref, [.d .n]⟩),
 (2, ⟨1, 8, (.int .i64), [.d (.i .i64 0)]⟩),
 (3, ⟨1, 8, (.int .i64), [.d (.i .i64 0)]⟩),
 (4, ⟨1, 1, .bool, [.d (.b false)]⟩),
 (5, ⟨1, 1, (.int .u8), [.d (.i .u8 0)]⟩),
 (9, ⟨1, 16, .str, [.d (.s ByteArray.empty)]⟩),
 (12, ⟨1, 8, (.int .u64), [.d (.i .u64 0)]⟩),
 (20, ⟨1, 16, .iface, [.d (.e false)]⟩),
 (21, ⟨1, 4, (.int .i32), [.d (.i .i32 0)]⟩),
 (22, ⟨1, 24, (.slice 35), [.z 2]⟩),
 (23, ⟨1, 8, .ref, [.d .n]⟩),
 (24, ⟨1, 24, (.slice 9), [.z 1]⟩),
 (25, ⟨1, 8, .ref, [.d .n]⟩),
 (26, ⟨1, 24, (.slice 41), [.z 2]⟩),
 (27, ⟨1, 8, .ref, [.d .n]⟩),
 (28, ⟨1, 8, .ref, [.d .n]⟩),
 (29, ⟨1, 8, .ref, [.d .n]⟩),
 (30, ⟨1, 8, .ref, [.d .n]⟩),
 (31, ⟨1, 8, .ref, [.d .n]⟩),
 (32, ⟨1, 8, .ref, [.d .n]⟩),
 (33, ⟨1, 8, .ref, [.d .n]⟩),
 (34, ⟨2, 32, (.strct [(0, 9), (1, 9)]), [.d (.s ByteArray.empty), .d (.s ByteArray.empty)]⟩),
 (35, ⟨2, 32, (.strct [(0, 9), (1, 9)]), [.d (.s ByteArray.empty), .d (.s ByteArray.empty)]⟩),
 (36, ⟨1, 24, (.slice 39), [.z 2]⟩),
 (37, ⟨1, 8, .ref, [.d .n]⟩),
 (38, ⟨2, 40, (.strct [(0, 9), (1, 24)]), [.d (.s ByteArray.empty), .z 1]⟩),
 (39, ⟨2, 40, (.strct [(0, 9), (1, 24)]), [.d (.s ByteArray.empty), .z 1]⟩),
 (40, ⟨1, 8, .ref, [.d .n]⟩),
 (41, ⟨2, 32, (.strct [(0, 9), (1, 9)]), [.d (.s ByteArray.empty), .d (.s ByteArray.empty)]⟩),
 (42, ⟨1, 8, .ref, [.d .n]⟩),
 (43, ⟨1, 8, .ref, [.d .n]⟩),
 (44, ⟨1, 8, .ref, [.d .n]⟩),
 (45, ⟨1, 8, .ref, [.d .n]⟩),
 (46, ⟨1, 8, .ref, [.d .n]⟩),
 (47, ⟨1, 24, (.slice 95), [.z 9]⟩),
 (48, ⟨1, 24, (.slice 93), [.z 5]⟩),
 (49, ⟨3, 72, (.strct [(0, 24), (1, 47), (2, 48)]), [.z 1, .z 9, .z 5]⟩),
 (50, ⟨3, 72, (.strct [(0, 24), (1, 47), (2, 48)]), [.z 1, .z 9, .z 5]⟩),
 (52, ⟨1, 8, .ref, [.d .n]⟩),
 (53, ⟨1, 24, (.slice 58), [.z 2]⟩),
 (54, ⟨1, 8, .ref, [.d .n]⟩),
 (55, ⟨1, 8, .ref, [.d .n]⟩),
 (56, ⟨1, 24, (.slice 81), [.z 3]⟩),
 (57, ⟨2, 40, (.strct [(0, 9), (1, 56)]), [.d (.s ByteArray.empty), .z 3]⟩),
 (58, ⟨2, 40, (.strct [(0, 9), (1, 56)]), [.d (.s ByteArray.empty), .z 3]⟩),
 (59, ⟨1, 24, (.slice 65), [.z 6]⟩),
 (60, ⟨1, 24, (.slice 65), [.z 6]⟩),
 (61, ⟨1, 8, .ref, [.d .n]⟩),
 (62, ⟨1, 8, .ref, [.d .n]⟩),
 (63, ⟨1, 8, .ref, [.d .n]⟩),
 (64, ⟨6, 112, (.strct [(0, 9), (1, 9), (2, 50), (5, 3)]), [.d (.s ByteArray.empty), .d (.s ByteArray.empty), .z 1, .z 9, .z 5, .d (.i .i64 0)]⟩),
 (65, ⟨6, 112, (.strct [(0, 9), (1, 9), (2, 50), (5, 3)]), [.d (.s ByteArray.empty), .d (.s ByteArray.empty), .z 1, .z 9, .z 5, .d (.i .i64 0)]⟩),
 (66, ⟨1, 8, .ref, [.d .n]⟩),
 (67, ⟨1, 8, .ref, [.d .n]⟩),
 (68, ⟨1, 24, (.slice 5), [.z 1]⟩),
 (69, ⟨1, 8, .ref, [.d .n]⟩),
 (71, ⟨1, 8, .ref, [.d .n]⟩),
 (73, ⟨3, 40, (.strct [(0, 24), (1, 3), (2, 4)]), [.z 1, .d (.i .i64 0), .d (.b false)]⟩),
 (74, ⟨3, 40, (.strct [(0, 24), (1, 3), (2, 4)]), [.z 1, .d (.i .i64 0), .d (.b false)]⟩),
 (75, ⟨1, 8, .ref, [.d .n]⟩),
 (76, ⟨1, 8, .ref, [.d .n]⟩),
 (77, ⟨1, 8, .ref, [.d .n]⟩),
 (78, ⟨1, 8, .ref, [.d .n]⟩),
 (79, ⟨1, 24, (.slice 3), [.z 1]⟩),
 (80, ⟨3, 48, (.strct [(0, 9), (1, 79), (2, 3)]), [.d (.s ByteArray.empty), .z 1, .d (.i .i64 0)]⟩),
 (81, ⟨3, 48, (.strct [(0, 9), (1, 79), (2, 3)]), [.d (.s ByteArray.empty), .z 1, .d (.i .i64 0)]⟩),
 (82, ⟨1, 8, .ref, [.d .n]⟩),
 (83, ⟨1, 8, .ref, [.d .n]⟩),
 (84, ⟨1, 8, .ref, [.d .n]⟩),
 (85, ⟨1, 8, .ref, [.d .n]⟩),
 (86, ⟨1, 8, .ref, [.d .n]⟩),
 (87, ⟨1, 8, .ref, [.d .n]⟩),
 (88, ⟨1, 8, .ref, [.d .n]⟩),
 (89, ⟨1, 8, .ref, [.d .n]⟩),
 (90, ⟨1, 8, .ref, [.d .n]⟩),
 (91, ⟨1, 24, (.slice 115), [.z 2]⟩),
 (92, ⟨5, 72, (.strct [(0, 3), (1, 3), (2, 9), (3, 9), (4, 48)]), [.d (.i .i64 0), .d (.i .i64 0), .d (.s ByteArray.empty), .d (.s ByteArray.empty), .z 5]⟩),
 (93, ⟨5, 72, (.strct [(0, 3), (1, 3), (2, 9), (3, 9), (4, 48)]), [.d (.i .i64 0), .d (.i .i64 0), .d (.s ByteArray.empty), .d (.s ByteArray.empty), .z 5]⟩),
 (94, ⟨9, 128, (.strct [(0, 9), (1, 4), (2, 91), (3, 3), (4, 93)]), [.d (.s ByteArray.empty), .d (.b false), .z 2, .d (.i .i64 0), .d (.i .i64 0), .d (.i .i64 0), .d (.s ByteArray.empty), .d (.s ByteArray.empty), .z 5]⟩),
 (95, ⟨9, 128, (.strct [(0, 9), (1, 4), (2, 91), (3, 3), (4, 93)]), [.d (.s ByteArray.empty), .d (.b false), .z 2, .d (.i .i64 0), .d (.i .i64 0), .d (.i .i64 0), .d (.s ByteArray.empty), .d (.s ByteArray.empty), .z 5]⟩),
 (96, ⟨1, 8, .ref, [.d .n]⟩),
 (97, ⟨1, 8, .ref, [.d .n]⟩),
 (98, ⟨1, 8, .ref, [.d .n]⟩),
 (99, ⟨1, 8, .ref, [.d .n]⟩),
 (100, ⟨1, 8, .ref, [.d .n]⟩),
 (101, ⟨1, 8, .ref, [.d .n]⟩),
 (102, ⟨1, 8, .ref, [.d .n]⟩),
 (103, ⟨1, 8, .ref, [.d .n]⟩),
 (105, ⟨1, 8, .ref, [.d .n]⟩),
 (106, ⟨1, 8, .ref, [.d .n]⟩),
 (107, ⟨1, 8, .ref, [.d .n]⟩),
 (108, ⟨2, 32, (.strct [(0, 107), (1, 68)]), [.d .n, .z 1]⟩),
 (109, ⟨2, 32, (.strct [(0, 107), (1, 68)]), [.d .n, .z 1]⟩),
 (110, ⟨1, 16, .iface, [.d (.e false)]⟩),
 (111, ⟨1, 16, .iface, [.d (.e false)]⟩),
 (113, ⟨1, 8, .ref, [.d .n]⟩),
 (114, ⟨2, 24, (.strct [(0, 9), (1, 3)]), [.d (.s ByteArray.empty), .d (.i .i64 0)]⟩),
 (115, ⟨2, 24, (.strct [(0, 9), (1, 3)]), [.d (.s ByteArray.empty), .d (.i .i64 0)]⟩),
 (116, ⟨1, 8, .ref, [.d .n]⟩),
 (118, ⟨1, 8, .ref, [.d .n]⟩),
 (119, ⟨0, 0, (.strct []), []⟩),
 (120, ⟨0, 0, (.strct []), []⟩),
 (123, ⟨1, 24, (.strct [(0, 24)]), [.z 1]⟩),
 (124, ⟨1, 24, (.strct [(0, 24)]), [.z 1]⟩),
 (125, ⟨1, 8, .ref, [.d .n]⟩),
 (126, ⟨1, 8, .ref, [.d .n]⟩),
 (127, ⟨1, 8, .ref, [.d .n]⟩),
 (128, ⟨1, 8, .ref, [.d .n]⟩),
 (129, ⟨1, 8, .ref, [.d .n]⟩),
 (130, ⟨1, 8, .ref, [.d .n]⟩),
 (131, ⟨1, 8, .ref, [.d .n]⟩),
 (132, ⟨1, 8, .ref, [.d .n]⟩),
 (133, ⟨1, 8, .ref, [.d .n]⟩),
 (134, ⟨1, 8, .ref, [.d .n]⟩),
 (135, ⟨1, 8, .ref, [.d .n]⟩),
 (136, ⟨3, 48, (.arr 3 9), [.d (.s ByteArray.empty), .d (.s ByteArray.empty), .d (.s ByteArray.empty)]⟩),
 (139, ⟨1, 8, .ref, [.d .n]⟩),
 (141, ⟨1, 8, .ref, [.d .n]⟩),
 (142, ⟨1, 8, .ref, [.d .n]⟩),
 (143, ⟨1, 8, .ref, [.d .n]⟩),
 (144, ⟨1, 8, .ref, [.d .n]⟩),
 (145, ⟨1, 8, .ref, [.d .n]⟩),
 (146, ⟨1, 8, .ref, [.d .n]⟩),
 (147, ⟨1, 8, .ref, [.d .n]⟩),
 (148, ⟨1, 8, .ref, [.d .n]⟩),
 (149, ⟨1, 8, (.int .u64), [.d (.i .u64 0)]⟩),
 (150, ⟨1, 8, .ref, [.d .n]⟩),
 (153, ⟨1, 8, .ref, [.d .n]⟩),
 (154, ⟨1, 8, .ref, [.d .n]⟩),
 (155, ⟨1, 8, .ref, [.d .n]⟩),
 (156, ⟨1, 8, .ref, [.d .n]⟩),
 (157, ⟨1, 8, (.int .i64), [.d (.i .i64 0)]⟩),
 (159, ⟨1, 8, .ref, [.d .n]⟩),
 (160, ⟨1, 8, .ref, [.d .n]⟩),
 (161, ⟨1, 8, .ref, [.d .n]⟩),
 (162, ⟨1, 8, .ref, [.d .n]⟩),
 (163, ⟨1, 8, .ref, [.d .n]⟩),
 (164, ⟨1, 4, (.int .u32), [.d (.i .u32 0)]⟩),
 (165, ⟨1, 8, .ref, [.d .n]⟩),
 (166, ⟨1, 8, (.int .u64), [.d (.i .u64 0)]⟩),
 (167, ⟨1, 8, .ref, [.d .n]⟩),
 (168, ⟨1, 8, .ref, [.d .n]⟩),
 (169, ⟨1, 8, (.int .u64), [.d (.i .u64 0)]⟩),
 (170, ⟨1, 8, .ref, [.d .n]⟩),
 (171, ⟨1, 8, .ref, [.d .n]⟩),
 (172, ⟨1, 8, .ref, [.d .n]⟩),
 (174, ⟨1, 8, .ref, [.d .n]⟩),
 (175, ⟨1, 8, .ref, [.d .n]⟩),
 (176, ⟨1, 8, .ref, [.d .n]⟩),
 (178, ⟨1, 8, .ref, [.d .n]⟩),
 (179, ⟨1, 8, .ref, [.d .n]⟩),
 (180, ⟨1, 8, (.int .i64), [.d (.i .i64 0)]⟩),
 (182, ⟨1, 8, .ref, [.d .n]⟩),
 (184, ⟨1, 8, .ref, [.d .n]⟩),
 (185, ⟨1, 8, .ref, [.d .n]⟩),
 (186, ⟨1, 8, .ref, [.d .n]⟩),
 (188, ⟨1, 8, .ref, [.d .n]⟩),
 (189, ⟨1, 8, .ref, [.d .n]⟩),
 (190, ⟨3, 48, (.strct [(0, 9), (1, 9), (2, 111)]), [.d (.s ByteArray.empty), .d (.s ByteArray.empty), .d (.e false)]⟩),
 (191, ⟨3, 48, (.strct [(0, 9), (1, 9), (2, 111)]), [.d (.s ByteArray.empty), .d (.s ByteArray.empty), .d (.e false)]⟩),
 (192, ⟨1, 8, .ref, [.d .n]⟩),
 (194, ⟨1, 8, .ref, [.d .n]⟩),
 (196, ⟨1, 8, .ref, [.d .n]⟩),
 (197, ⟨1, 8, .ref, [.d .n]⟩),
 (198, ⟨1, 8, .ref, [.d .n]⟩),
 (200, ⟨1, 16, (.strct [(0, 9)]), [.d (.s ByteArray.empty)]⟩),
 (201, ⟨1, 16, (.strct [(0, 9)]), [.d (.s ByteArray.empty)]⟩),
 (202, ⟨1, 8, .ref, [.d .n]⟩),
 (203, ⟨20, 160, (.arr 20 166), [.d (.i .u64 0), .d (.i .u64 0), .d (.i .u64 0), .d (.i .u64 0), .d (.i .u64 0), .d (.i .u64 0), .d (.i .u64 0), .d (.i .u64 0), .d (.i .u64 0), .d (.i .u64 0), .d (.i .u64 0), .d (.i .u64 0), .d (.i .u64 0), .d (.i .u64 0), .d (.i .u64 0), .d (.i .u64 0), .d (.i .u64 0), .d (.i .u64 0), .d (.i .u64 0), .d (.i .u64 0)]⟩),
 (206, ⟨1, 8, .ref, [.d .n]⟩)], maps := [] }
theorem tab_ok : tab.ok Go.Proofs.Tryz.prog = true := by decide +kernel
theorem ti1 : tab.ti 1 = some ⟨1, 8, .ref, [.d .n]⟩ := rfl
theorem kd1 : tab.kd 1 = some .ref := rfl
theorem ti2 : tab.ti 2 = some ⟨1, 8, (.int .i64), [.d (.i .i64 0)]⟩ := rfl
theorem kd2 : tab.kd 2 = some (.int .i64) := rfl
theorem ti3 : tab.ti 3 = some ⟨1, 8, (.int .i64), [.d (.i .i64 0)]⟩ := rfl
theorem kd3 : tab.kd 3 = some (.int .i64) := rfl
theorem ti4 : tab.ti 4 = some ⟨1, 1, .bool, [.d (.b false)]⟩ := rfl
theorem kd4 : tab.kd 4 = some .bool := rfl
theorem ti5 : tab.ti 5 = some ⟨1, 1, (.int .u8), [.d (.i .u8 0)]⟩ := rfl
theorem kd5 : tab.kd 5 = some (.int .u8) := rfl
theorem ti9 : tab.ti 9 = some ⟨1, 16, .str, [.d (.s ByteArray.empty)]⟩ := rfl
theorem kd9 : tab.kd 9 = some .str := rfl
theorem ti12 : tab.ti 12 = some ⟨1, 8, (.int .u64), [.d (.i .u64 0)]⟩ := rfl
theorem kd12 : tab.kd 12 = some (.int .u64) := rfl
theorem ti20 : tab.ti 20 = some ⟨1, 16, .iface, [.d (.e false)]⟩ := rfl
theorem kd20 : tab.kd 20 = some .iface := rfl
theorem ti21 : tab.ti 21 = some ⟨1, 4, (.int .i32), [.d (.i .i32 0)]⟩ := rfl
theorem kd21 : tab.kd 21 = some (.int .i32) := rfl
theorem ti22 : tab.ti 22 = some ⟨1, 24, (.slice 35), [.z 2]⟩ := rfl
theorem kd22 : tab.kd 22 = some (.slice 35) := rfl
theorem ti23 : tab.ti 23 = some ⟨1, 8, .ref, [.d .n]⟩ := rfl
theorem kd23 : tab.kd 23 = some .ref := rfl
theorem ti24 : tab.ti 24 = some ⟨1, 24, (.slice 9), [.z 1]⟩ := rfl
theorem kd24 : tab.kd 24 = some (.slice 9) := rfl
theorem ti25 : tab.ti 25 = some ⟨1, 8, .ref, [.d .n]⟩ := rfl
theorem kd25 : tab.kd 25 = some .ref := rfl
theorem ti26 : tab.ti 26 = some ⟨1, 24, (.slice 41), [.z 2]⟩ := rfl
theorem kd26 : tab.kd 26 = some (.slice 41) := rfl
theorem ti27 : tab.ti 27 = some ⟨1, 8, .ref, [.d .n]⟩ := rfl
theorem kd27 : tab.kd 27 = some .ref := rfl
theorem ti28 : tab.ti 28 = some ⟨1, 8, .ref, [.d .n]⟩ := rfl
theorem kd28 : tab.kd 28 = some .ref := rfl
theorem ti29 : tab.ti 29 = some ⟨1, 8, .ref, [.d .n]⟩ := rfl
theorem kd29 : tab.kd 29 = some .ref := rfl
theorem ti30 : tab.ti 30 = some ⟨1, 8, .ref, [.d .n]⟩ := rfl
theorem kd30 : tab.kd 30 = some .ref := rfl
theorem ti31 : tab.ti 31 = some ⟨1, 8, .ref, [.d .n]⟩ := rfl
theorem kd31 : tab.kd 31 = some .ref := rfl
theorem ti32 : tab.ti 32 = some ⟨1, 8, .ref, [.d .n]⟩ := rfl
theorem kd32 : tab.kd 32 = some .ref := rfl
theorem ti33 : tab.ti 33 = some ⟨1, 8, .ref, [.d .n]⟩ := rfl
theorem kd33 : tab.kd 33 = some .ref := rfl
theorem ti34 : tab.ti 34 = some ⟨2, 32, (.strct [(0, 9), (1, 9)]), [.d (.s ByteArray.empty), .d (.s ByteArray.empty)]⟩ := rfl
theorem kd34 : tab.kd 34 = some (.strct [(0, 9), (1, 9)]) := rfl
theorem ti35 : tab.ti 35 = some ⟨2, 32, (.strct [(0, 9), (1, 9)]), [.d (.s ByteArray.empty), .d (.s ByteArray.empty)]⟩ := rfl
theorem kd35 : tab.kd 35 = some (.strct [(0, 9), (1, 9)]) := rfl
theorem ti36 : tab.ti 36 = some ⟨1, 24, (.slice 39), [.z 2]⟩ := rfl
theorem kd36 : tab.kd 36 = some (.slice 39) := rfl
theorem ti37 : tab.ti 37 = some ⟨1, 8, .ref, [.d .n]⟩ := rfl
theorem kd37 : tab.kd 37 = some .ref := rfl
theorem ti38 : tab.ti 38 = some ⟨2, 40, (.strct [(0, 9), (1, 24)]), [.d (.s ByteArray.empty), .z 1]⟩ := rfl
theorem kd38 : tab.kd 38 = some (.strct [(0, 9), (1, 24)]) := rfl
theorem ti39 : tab.ti 39 = some ⟨2, 40, (.strct [(0, 9), (1, 24)]), [.d (.s ByteArray.empty), .z 1]⟩ := rfl
theorem kd39 : tab.kd 39 = some (.strct [(0, 9), (1, 24)]) := rfl
theorem ti40 : tab.ti 40 = some ⟨1, 8, .ref, [.d .n]⟩ := rfl
theorem kd40 : tab.kd 40 = some .ref := rfl
theorem ti41 : tab.ti 41 = some ⟨2, 32, (.strct [(0, 9), (1, 9)]), [.d (.s ByteArray.empty), .d (.s ByteArray.empty)]⟩ := rfl
theorem kd41 : tab.kd 41 = some (.strct [(0, 9), (1, 9)]) := rfl
theorem ti42 : tab.ti 42 = some ⟨1, 8, .ref, [.d .n]⟩ := rfl
theorem kd42 : tab.kd 42 = some .ref := rfl
theorem ti43 : tab.ti 43 = some ⟨1, 8, .ref, [.d .n]⟩ := rfl
theorem kd43 : tab.kd 43 = some .ref := rfl
theorem ti44 : tab.ti 44 = some ⟨1, 8, .ref, [.d .n]⟩ := rfl
theorem kd44 : tab.kd 44 = some .ref := rfl
theorem ti45 : tab.ti 45 = some ⟨1, 8, .ref, [.d .n]⟩ := rfl
theorem kd45 : tab.kd 45 = some .ref := rfl
theorem ti46 : tab.ti 46 = some ⟨1, 8, .ref, [.d .n]⟩ := rfl
theorem kd46 : tab.kd 46 = some .ref := rfl
theorem ti47 : tab.ti 47 = some ⟨1, 24, (.slice 95), [.z 9]⟩ := rfl
theorem kd47 : tab.kd 47 = some (.slice 95) := rfl
theorem ti48 : tab.ti 48 = some ⟨1, 24, (.slice 93), [.z 5]⟩ := rfl
theorem kd48 : tab.kd 48 = some (.slice 93) := rfl
theorem ti49 : tab.ti 49 = some ⟨3, 72, (.strct [(0, 24), (1, 47), (2, 48)]), [.z 1, .z 9, .z 5]⟩ := rfl
theorem kd49 : tab.kd 49 = some (.strct [(0, 24), (1, 47), (2, 48)]) := rfl
theorem ti50 : tab.ti 50 = some ⟨3, 72, (.strct [(0, 24), (1, 47), (2, 48)]), [.z 1, .z 9, .z 5]⟩ := rfl
theorem kd50 : tab.kd 50 = some (.strct [(0, 24), (1, 47), (2, 48)]) := rfl
theorem ti52 : tab.ti 52 = some ⟨1, 8, .ref, [.d .n]⟩ := rfl
theorem kd52 : tab.kd 52 = some .ref := rfl
theorem ti53 : tab.ti 53 = some ⟨1, 24, (.slice 58), [.z 2]⟩ := rfl
theorem kd53 : tab.kd 53 = some (.slice 58) := rfl
theorem ti54 : tab.ti 54 = some ⟨1, 8, .ref, [.d .n]⟩ := rfl
theorem kd54 : tab.kd 54 = some .ref := rfl
theorem ti55 : tab.ti 55 = some ⟨1, 8, .ref, [.d .n]⟩ := rfl
theorem kd55 : tab.kd 55 = some .ref := rfl
theorem ti56 : tab.ti 56 = some ⟨1, 24, (.slice 81), [.z 3]⟩ := rfl
theorem kd56 : tab.kd 56 = some (.slice 81) := rfl
theorem ti57 : tab.ti 57 = some ⟨2, 40, (.strct [(0, 9), (1, 56)]), [.d (.s ByteArray.empty), .z 3]⟩ := rfl
theorem kd57 : tab.kd 57 = some (.strct [(0, 9), (1, 56)]) := rfl
theorem ti58 : tab.ti 58 = some ⟨2, 40, (.strct [(0, 9), (1, 56)]), [.d (.s ByteArray.empty), .z 3]⟩ := rfl
theorem kd58 : tab.kd 58 = some (.strct [(0, 9), (1, 56)]) := rfl
theorem ti59 : tab.ti 59 = some ⟨1, 24, (.slice 65), [.z 6]⟩ := rfl
theorem kd59 : tab.kd 59 = some (.slice 65) := rfl
theorem ti60 : tab.ti 60 = some ⟨1, 24, (.slice 65), [.z 6]⟩ := rfl
theorem kd60 : tab.kd 60 = some (.slice 65) := rfl
theorem ti61 : tab.ti 61 = some ⟨1, 8, .ref, [.d .n]⟩ := rfl
theorem kd61 : tab.kd 61 = some .ref := rfl
theorem ti62 : tab.ti 62 = some ⟨1, 8, .ref, [.d .n]⟩ := rfl
theorem kd62 : tab.kd 62 = some .ref := rfl
theorem ti63 : tab.ti 63 = some ⟨1, 8, .ref, [.d .n]⟩ := rfl
theorem kd63 : tab.kd 63 = some .ref := rfl
theorem ti64 : tab.ti 64 = some ⟨6, 112, (.strct [(0, 9), (1, 9), (2, 50), (5, 3)]), [.d (.s ByteArray.empty), .d (.s ByteArray.empty), .z 1, .z 9, .z 5, .d (.i .i64 0)]⟩ := rfl
theorem kd64 : tab.kd 64 = some (.strct [(0, 9), (1, 9), (2, 50), (5, 3)]) := rfl
theorem ti65 : tab.ti 65 = some ⟨6, 112, (.strct [(0, 9), (1, 9), (2, 50), (5, 3)]), [.d (.s ByteArray.empty), .d (.s ByteArray.empty), .z 1, .z 9, .z 5, .d (.i .i64 0)]⟩ := rfl
theorem kd65 : tab.kd 65 = some (.strct [(0, 9), (1, 9), (2, 50), (5, 3)]) := rfl
theorem ti66 : tab.ti 66 = some ⟨1, 8, .ref, [.d .n]⟩ := rfl
theorem kd66 : tab.kd 66 = some .ref := rfl
theorem ti67 : tab.ti 67 = some ⟨1, 8, .ref, [.d .n]⟩ := rfl
theorem kd67 : tab.kd 67 = some .ref := rfl
theorem ti68 : tab.ti 68 = some ⟨1, 24, (.slice 5), [.z 1]⟩ := rfl
theorem kd68 : tab.kd 68 = some (.slice 5) := rfl
theorem ti69 : tab.ti 69 = some ⟨1, 8, .ref, [.d .n]⟩ := rfl
theorem kd69 : tab.kd 69 = some .ref := rfl
theorem ti71 : tab.ti 71 = some ⟨1, 8, .ref, [.d .n]⟩ := rfl
theorem kd71 : tab.kd 71 = some .ref := rfl
theorem ti73 : tab.ti 73 = some ⟨3, 40, (.strct [(0, 24), (1, 3), (2, 4)]), [.z 1, .d (.i .i64 0), .d (.b false)]⟩ := rfl
theorem kd73 : tab.kd 73 = some (.strct [(0, 24), (1, 3), (2, 4)]) := rfl
theorem ti74 : tab.ti 74 = some ⟨3, 40, (.strct [(0, 24), (1, 3), (2, 4)]), [.z 1, .d (.i .i64 0), .d (.b false)]⟩ := rfl
theorem kd74 : tab.kd 74 = some (.strct [(0, 24), (1, 3), (2, 4)]) := rfl
theorem ti75 : tab.ti 75 = some ⟨1, 8, .ref, [.d .n]⟩ := rfl
theorem kd75 : tab.kd 75 = some .ref := rfl
theorem ti76 : tab.ti 76 = some ⟨1, 8, .ref, [.d .n]⟩ := rfl
theorem kd76 : tab.kd 76 = some .ref := rfl
theorem ti77 : tab.ti 77 = some ⟨1, 8, .ref, [.d .n]⟩ := rfl
theorem kd77 : tab.kd 77 = some .ref := rfl
theorem ti78 : tab.ti 78 = some ⟨1, 8, .ref, [.d .n]⟩ := rfl
theorem kd78 : tab.kd 78 = some .ref := rfl
theorem ti79 : tab.ti 79 = some ⟨1, 24, (.slice 3), [.z 1]⟩ := rfl
theorem kd79 : tab.kd 79 = some (.slice 3) := rfl
theorem ti80 : tab.ti 80 = some ⟨3, 48, (.strct [(0, 9), (1, 79), (2, 3)]), [.d (.s ByteArray.empty), .z 1, .d (.i .i64 0)]⟩ := rfl
theorem kd80 : tab.kd 80 = some (.strct [(0, 9), (1, 79), (2, 3)]) := rfl
theorem ti81 : tab.ti 81 = some ⟨3, 48, (.strct [(0, 9), (1, 79), (2, 3)]), [.d (.s ByteArray.empty), .z 1, .d (.i .i64 0)]⟩ := rfl
theorem kd81 : tab.kd 81 = some (.strct [(0, 9), (1, 79), (2, 3)]) := rfl
theorem ti82 : tab.ti 82 = some ⟨1, 8, .ref, [.d .n]⟩ := rfl
theorem kd82 : tab.kd 82 = some .ref := rfl
theorem ti83 : tab.ti 83 = some ⟨1, 8, .ref, [.d .n]⟩ := rfl
theorem kd83 : tab.kd 83 = some .ref := rfl
theorem ti84 : tab.ti 84 = some ⟨1, 8, .ref, [.d .n]⟩ := rfl
theorem kd84 : tab.kd 84 = some .ref := rfl
theorem ti85 : tab.ti 85 = some ⟨1, 8, .ref, [.d .n]⟩ := rfl
theorem kd85 : tab.kd 85 = some .ref := rfl
theorem ti86 : tab.ti 86 = some ⟨1, 8, .ref, [.d .n]⟩ := rfl
theorem kd86 : tab.kd 86 = some .ref := rfl
theorem ti87 : tab.ti 87 = some ⟨1, 8, .ref, [.d .n]⟩ := rfl
theorem kd87 : tab.kd 87 = some .ref := rfl
theorem ti88 : tab.ti 88 = some ⟨1, 8, .ref, [.d .n]⟩ := rfl
theorem kd88 : tab.kd 88 = some .ref := rfl
theorem ti89 : tab.ti 89 = some ⟨1, 8, .ref, [.d .n]⟩ := rfl
theorem kd89 : tab.kd 89 = some .ref := rfl
theorem ti90 : tab.ti 90 = some ⟨1, 8, .ref, [.d .n]⟩ := rfl
theorem kd90 : tab.kd 90 = some .ref := rfl
theorem ti91 : tab.ti 91 = some ⟨1, 24, (.slice 115), [.z 2]⟩ := rfl
theorem kd91 : tab.kd 91 = some (.slice 115) := rfl
theorem ti92 : tab.ti 92 = some ⟨5, 72, (.strct [(0, 3), (1, 3), (2, 9), (3, 9), (4, 48)]), [.d (.i .i64 0), .d (.i .i64 0), .d (.s ByteArray.empty), .d (.s ByteArray.empty), .z 5]⟩ := rfl
theorem kd92 : tab.kd 92 = some (.strct [(0, 3), (1, 3), (2, 9), (3, 9), (4, 48)]) := rfl
theorem ti93 : tab.ti 93 = some ⟨5, 72, (.strct [(0, 3), (1, 3), (2, 9), (3, 9), (4, 48)]), [.d (.i .i64 0), .d (.i .i64 0), .d (.s ByteArray.empty), .d (.s ByteArray.empty), .z 5]⟩ := rfl
theorem kd93 : tab.kd 93 = some (.strct [(0, 3), (1, 3), (2, 9), (3, 9), (4, 48)]) := rfl
theorem ti94 : tab.ti 94 = some ⟨9, 128, (.strct [(0, 9), (1, 4), (2, 91), (3, 3), (4, 93)]), [.d (.s ByteArray.empty), .d (.b false), .z 2, .d (.i .i64 0), .d (.i .i64 0), .d (.i .i64 0), .d (.s ByteArray.empty), .d (.s ByteArray.empty), .z 5]⟩ := rfl
theorem kd94 : tab.kd 94 = some (.strct [(0, 9), (1, 4), (2, 91), (3, 3), (4, 93)]) := rfl
theorem ti95 : tab.ti 95 = some ⟨9, 128, (.strct [(0, 9), (1, 4), (2, 91), (3, 3), (4, 93)]), [.d (.s ByteArray.empty), .d (.b false), .z 2, .d (.i .i64 0), .d (.i .i64 0), .d (.i .i64 0), .d (.s ByteArray.empty), .d (.s ByteArray.empty), .z 5]⟩ := rfl
theorem kd95 : tab.kd 95 = some (.strct [(0, 9), (1, 4), (2, 91), (3, 3), (4, 93)]) := rfl
theorem ti96 : tab.ti 96 = some ⟨1, 8, .ref, [.d .n]⟩ := rfl
theorem kd96 : tab.kd 96 = some .ref := rfl
theorem ti97 : tab.ti 97 = some ⟨1, 8, .ref, [.d .n]⟩ := rfl
theorem kd97 : tab.kd 97 = some .ref := rfl
theorem ti98 : tab.ti 98 = some ⟨1, 8, .ref, [.d .n]⟩ := rfl
theorem kd98 : tab.kd 98 = some .ref := rfl
theorem ti99 : tab.ti 99 = some ⟨1, 8, .ref, [.d .n]⟩ := rfl
theorem kd99 : tab.kd 99 = some .ref := rfl
theorem ti100 : tab.ti 100 = some ⟨1, 8, .ref, [.d .n]⟩ := rfl
theorem kd100 : tab.kd 100 = some .ref := rfl
theorem ti101 : tab.ti 101 = some ⟨1, 8, .ref, [.d .n]⟩ := rfl
theorem kd101 : tab.kd 101 = some .ref := rfl
theorem ti102 : tab.ti 102 = some ⟨1, 8, .ref, [.d .n]⟩ := rfl
theorem kd102 : tab.kd 102 = some .ref := rfl
theorem ti103 : tab.ti 103 = some ⟨1, 8, .ref, [.d .n]⟩ := rfl
theorem kd103 : tab.kd 103 = some .ref := rfl
theorem ti105 : tab.ti 105 = some ⟨1, 8, .ref, [.d .n]⟩ := rfl
theorem kd105 : tab.kd 105 = some .ref := rfl
theorem ti106 : tab.ti 106 = some ⟨1, 8, .ref, [.d .n]⟩ := rfl
theorem kd106 : tab.kd 106 = some .ref := rfl
theorem ti107 : tab.ti 107 = some ⟨1, 8, .ref, [.d .n]⟩ := rfl
theorem kd107 : tab.kd 107 = some .ref := rfl
theorem ti108 : tab.ti 108 = some ⟨2, 32, (.strct [(0, 107), (1, 68)]), [.d .n, .z 1]⟩ := rfl
theorem kd108 : tab.kd 108 = some (.strct [(0, 107), (1, 68)]) := rfl
theorem ti109 : tab.ti 109 = some ⟨2, 32, (.strct [(0, 107), (1, 68)]), [.d .n, .z 1]⟩ := rfl
theorem kd109 : tab.kd 109 = some (.strct [(0, 107), (1, 68)]) := rfl
theorem ti110 : tab.ti 110 = some ⟨1, 16, .iface, [.d (.e false)]⟩ := rfl
theorem kd110 : tab.kd 110 = some .iface := rfl
theorem ti111 : tab.ti 111 = some ⟨1, 16, .iface, [.d (.e false)]⟩ := rfl
theorem kd111 : tab.kd 111 = some .iface := rfl
theorem ti113 : tab.ti 113 = some ⟨1, 8, .ref, [.d .n]⟩ := rfl
theorem kd113 : tab.kd 113 = some .ref := rfl
theorem ti114 : tab.ti 114 = some ⟨2, 24, (.strct [(0, 9), (1, 3)]), [.d (.s ByteArray.empty), .d (.i .i64 0)]⟩ := rfl
theorem kd114 : tab.kd 114 = some (.strct [(0, 9), (1, 3)]) := rfl
theorem ti115 : tab.ti 115 = some ⟨2, 24, (.strct [(0, 9), (1, 3)]), [.d (.s ByteArray.empty), .d (.i .i64 0)]⟩ := rfl
theorem kd115 : tab.kd 115 = some (.strct [(0, 9), (1, 3)]) := rfl
theorem ti116 : tab.ti 116 = some ⟨1, 8, .ref, [.d .n]⟩ := rfl
theorem kd116 : tab.kd 116 = some .ref := rfl
theorem ti118 : tab.ti 118 = some ⟨1, 8, .ref, [.d .n]⟩ := rfl
theorem kd118 : tab.kd 118 = some .ref := rfl
theorem ti119 : tab.ti 119 = some ⟨0, 0, (.strct []), []⟩ := rfl
theorem kd119 : tab.kd 119 = some (.strct []) := rfl
theorem ti120 : tab.ti 120 = some ⟨0, 0, (.strct []), []⟩ := rfl
theorem kd120 : tab.kd 120 = some (.strct []) := rfl
theorem ti123 : tab.ti 123 = some ⟨1, 24, (.strct [(0, 24)]), [.z 1]⟩ := rfl
theorem kd123 : tab.kd 123 = some (.strct [(0, 24)]) := rfl
theorem ti124 : tab.ti 124 = some ⟨1, 24, (.strct [(0, 24)]), [.z 1]⟩ := rfl
theorem kd124 : tab.kd 124 = some (.strct [(0, 24)]) := rfl
theorem ti125 : tab.ti 125 = some ⟨1, 8, .ref, [.d .n]⟩ := rfl
theorem kd125 : tab.kd 125 = some .ref := rfl
theorem ti126 : tab.ti 126 = some ⟨1, 8, .ref, [.d .n]⟩ := rfl
theorem kd126 : tab.kd 126 = some .ref := rfl
theorem ti127 : tab.ti 127 = some ⟨1, 8, .ref, [.d .n]⟩ := rfl
theorem kd127 : tab.kd 127 = some .ref := rfl
theorem ti128 : tab.ti 128 = some ⟨1, 8, .ref, [.d .n]⟩ := rfl
theorem kd128 : tab.kd 128 = some .ref := rfl
theorem ti129 : tab.ti 129 = some ⟨1, 8, .ref, [.d .n]⟩ := rfl
theorem kd129 : tab.kd 129 = some .ref := rfl
theorem ti130 : tab.ti 130 = some ⟨1, 8, .ref, [.d .n]⟩ := rfl
theorem kd130 : tab.kd 130 = some .ref := rfl
theorem ti131 : tab.ti 131 = some ⟨1, 8, .ref, [.d .n]⟩ := rfl
theorem kd131 : tab.kd 131 = some .ref := rfl
theorem ti132 : tab.ti 132 = some ⟨1, 8, .ref, [.d .n]⟩ := rfl
theorem kd132 : tab.kd 132 = some .ref := rfl
theorem ti133 : tab.ti 133 = some ⟨1, 8, .ref, [.d .n]⟩ := rfl
theorem kd133 : tab.kd 133 = some .ref := rfl
theorem ti134 : tab.ti 134 = some ⟨1, 8, .ref, [.d .n]⟩ := rfl
theorem kd134 : tab.kd 134 = some .ref := rfl
theorem ti135 : tab.ti 135 = some ⟨1, 8, .ref, [.d .n]⟩ := rfl
theorem kd135 : tab.kd 135 = some .ref := rfl
theorem ti136 : tab.ti 136 = some ⟨3, 48, (.arr 3 9), [.d (.s ByteArray.empty), .d (.s ByteArray.empty), .d (.s ByteArray.empty)]⟩ := rfl
theorem kd136 : tab.kd 136 = some (.arr 3 9) := rfl
theorem ti139 : tab.ti 139 = some ⟨1, 8, .ref, [.d .n]⟩ := rfl
theorem kd139 : tab.kd 139 = some .ref := rfl
theorem ti141 : tab.ti 141 = some ⟨1, 8, .ref, [.d .n]⟩ := rfl
theorem kd141 : tab.kd 141 = some .ref := rfl
theorem ti142 : tab.ti 142 = some ⟨1, 8, .ref, [.d .n]⟩ := rfl
theorem kd142 : tab.kd 142 = some .ref := rfl
theorem ti143 : tab.ti 143 = some ⟨1, 8, .ref, [.d .n]⟩ := rfl
theorem kd143 : tab.kd 143 = some .ref := rfl
theorem ti144 : tab.ti 144 = some ⟨1, 8, .ref, [.d .n]⟩ := rfl
theorem kd144 : tab.kd 144 = some .ref := rfl
theorem ti145 : tab.ti 145 = some ⟨1, 8, .ref, [.d .n]⟩ := rfl
theorem kd145 : tab.kd 145 = some .ref := rfl
theorem ti146 : tab.ti 146 = some ⟨1, 8, .ref, [.d .n]⟩ := rfl
theorem kd146 : tab.kd 146 = some .ref := rfl
theorem ti147 : tab.ti 147 = some ⟨1, 8, .ref, [.d .n]⟩ := rfl
theorem kd147 : tab.kd 147 = some .ref := rfl
theorem ti148 : tab.ti 148 = some ⟨1, 8, .ref, [.d .n]⟩ := rfl
theorem kd148 : tab.kd 148 = some .ref := rfl
theorem ti149 : tab.ti 149 = some ⟨1, 8, (.int .u64), [.d (.i .u64 0)]⟩ := rfl
theorem kd149 : tab.kd 149 = some (.int .u64) := rfl
theorem ti150 : tab.ti 150 = some ⟨1, 8, .ref, [.d .n]⟩ := rfl
theorem kd150 : tab.kd 150 = some .ref := rfl
theorem ti153 : tab.ti 153 = some ⟨1, 8, .ref, [.d .n]⟩ := rfl
theorem kd153 : tab.kd 153 = some .ref := rfl
theorem ti154 : tab.ti 154 = some ⟨1, 8, .ref, [.d .n]⟩ := rfl
theorem kd154 : tab.kd 154 = some .ref := rfl
theorem ti155 : tab.ti 155 = some ⟨1, 8, .ref, [.d .n]⟩ := rfl
theorem kd155 : tab.kd 155 = some .ref := rfl
theorem ti156 : tab.ti 156 = some ⟨1, 8, .ref, [.d .n]⟩ := rfl
theorem kd156 : tab.kd 156 = some .ref := rfl
theorem ti157 : tab.ti 157 = some ⟨1, 8, (.int .i64), [.d (.i .i64 0)]⟩ := rfl
theorem kd157 : tab.kd 157 = some (.int .i64) := rfl
theorem ti159 : tab.ti 159 = some ⟨1, 8, .ref, [.d .n]⟩ := rfl
theorem kd159 : tab.kd 159 = some .ref := rfl
theorem ti160 : tab.ti 160 = some ⟨1, 8, .ref, [.d .n]⟩ := rfl
theorem kd160 : tab.kd 160 = some .ref := rfl
theorem ti161 : tab.ti 161 = some ⟨1, 8, .ref, [.d .n]⟩ := rfl
theorem kd161 : tab.kd 161 = some .ref := rfl
theorem ti162 : tab.ti 162 = some ⟨1, 8, .ref, [.d .n]⟩ := rfl
theorem kd162 : tab.kd 162 = some .ref := rfl
theorem ti163 : tab.ti 163 = some ⟨1, 8, .ref, [.d .n]⟩ := rfl
theorem kd163 : tab.kd 163 = some .ref := rfl
theorem ti164 : tab.ti 164 = some ⟨1, 4, (.int .u32), [.d (.i .u32 0)]⟩ := rfl
theorem kd164 : tab.kd 164 = some (.int .u32) := rfl
theorem ti165 : tab.ti 165 = some ⟨1, 8, .ref, [.d .n]⟩ := rfl
theorem kd165 : tab.kd 165 = some .ref := rfl
theorem ti166 : tab.ti 166 = some ⟨1, 8, (.int .u64), [.d (.i .u64 0)]⟩ := rfl
theorem kd166 : tab.kd 166 = some (.int .u64) := rfl
theorem ti167 : tab.ti 167 = some ⟨1, 8, .ref, [.d .n]⟩ := rfl
theorem kd167 : tab.kd 167 = some .ref := rfl
theorem ti168 : tab.ti 168 = some ⟨1, 8, .ref, [.d .n]⟩ := rfl
theorem kd168 : tab.kd 168 = some .ref := rfl
theorem ti169 : tab.ti 169 = some ⟨1, 8, (.int .u64), [.d (.i .u64 0)]⟩ := rfl
theorem kd169 : tab.kd 169 = some (.int .u64) := rfl
theorem ti170 : tab.ti 170 = some ⟨1, 8, .ref, [.d .n]⟩ := rfl
theorem kd170 : tab.kd 170 = some .ref := rfl
theorem ti171 : tab.ti 171 = some ⟨1, 8, .ref, [.d .n]⟩ := rfl
theorem kd171 : tab.kd 171 = some .ref := rfl
theorem ti172 : tab.ti 172 = some ⟨1, 8, .ref, [.d .n]⟩ := rfl
theorem kd172 : tab.kd 172 = some .ref := rfl
theorem ti174 : tab.ti 174 = some ⟨1, 8, .ref, [.d .n]⟩ := rfl
theorem kd174 : tab.kd 174 = some .ref := rfl
theorem ti175 : tab.ti 175 = some ⟨1, 8, .ref, [.d .n]⟩ := rfl
theorem kd175 : tab.kd 175 = some .ref := rfl
theorem ti176 : tab.ti 176 = some ⟨1, 8, .ref, [.d .n]⟩ := rfl
theorem kd176 : tab.kd 176 = some .ref := rfl
theorem ti178 : tab.ti 178 = some ⟨1, 8, .ref, [.d .n]⟩ := rfl
theorem kd178 : tab.kd 178 = some .ref := rfl
theorem ti179 : tab.ti 179 = some ⟨1, 8, .ref, [.d .n]⟩ := rfl
theorem kd179 : tab.kd 179 = some .ref := rfl
theorem ti180 : tab.ti 180 = some ⟨1, 8, (.int .i64), [.d (.i .i64 0)]⟩ := rfl
theorem kd180 : tab.kd 180 = some (.int .i64) := rfl
theorem ti182 : tab.ti 182 = some ⟨1, 8, .ref, [.d .n]⟩ := rfl
theorem kd182 : tab.kd 182 = some .ref := rfl
theorem ti184 : tab.ti 184 = some ⟨1, 8, .ref, [.d .n]⟩ := rfl
theorem kd184 : tab.kd 184 = some .ref := rfl
theorem ti185 : tab.ti 185 = some ⟨1, 8, .ref, [.d .n]⟩ := rfl
theorem kd185 : tab.kd 185 = some .ref := rfl
theorem ti186 : tab.ti 186 = some ⟨1, 8, .ref, [.d .n]⟩ := rfl
theorem kd186 : tab.kd 186 = some .ref := rfl
theorem ti188 : tab.ti 188 = some ⟨1, 8, .ref, [.d .n]⟩ := rfl
theorem kd188 : tab.kd 188 = some .ref := rfl
theorem ti189 : tab.ti 189 = some ⟨1, 8, .ref, [.d .n]⟩ := rfl
theorem kd189 : tab.kd 189 = some .ref := rfl
theorem ti190 : tab.ti 190 = some ⟨3, 48, (.strct [(0, 9), (1, 9), (2, 111)]), [.d (.s ByteArray.empty), .d (.s ByteArray.empty), .d (.e false)]⟩ := rfl
theorem kd190 : tab.kd 190 = some (.strct [(0, 9), (1, 9), (2, 111)]) := rfl
theorem ti191 : tab.ti 191 = some ⟨3, 48, (.strct [(0, 9), (1, 9), (2, 111)]), [.d (.s ByteArray.empty), .d (.s ByteArray.empty), .d (.e false)]⟩ := rfl
theorem kd191 : tab.kd 191 = some (.strct [(0, 9), (1, 9), (2, 111)]) := rfl
theorem ti192 : tab.ti 192 = some ⟨1, 8, .ref, [.d .n]⟩ := rfl
theorem kd192 : tab.kd 192 = some .ref := rfl
theorem ti194 : tab.ti 194 = some ⟨1, 8, .ref, [.d .n]⟩ := rfl
theorem kd194 : tab.kd 194 = some .ref := rfl
theorem ti196 : tab.ti 196 = some ⟨1, 8, .ref, [.d .n]⟩ := rfl
theorem kd196 : tab.kd 196 = some .ref := rfl
theorem ti197 : tab.ti 197 = some ⟨1, 8, .ref, [.d .n]⟩ := rfl
theorem kd197 : tab.kd 197 = some .ref := rfl
theorem ti198 : tab.ti 198 = some ⟨1, 8, .ref, [.d .n]⟩ := rfl
theorem kd198 : tab.kd 198 = some .ref := rfl
theorem ti200 : tab.ti 200 = some ⟨1, 16, (.strct [(0, 9)]), [.d (.s ByteArray.empty)]⟩ := rfl
theorem kd200 : tab.kd 200 = some (.strct [(0, 9)]) := rfl
theorem ti201 : tab.ti 201 = some ⟨1, 16, (.strct [(0, 9)]), [.d (.s ByteArray.empty)]⟩ := rfl
theorem kd201 : tab.kd 201 = some (.strct [(0, 9)]) := rfl
theorem ti202 : tab.ti 202 = some ⟨1, 8, .ref, [.d .n]⟩ := rfl
theorem kd202 : tab.kd 202 = some .ref := rfl
theorem ti203 : tab.ti 203 = some ⟨20, 160, (.arr 20 166), [.d (.i .u64 0), .d (.i .u64 0), .d (.i .u64 0), .d (.i .u64 0), .d (.i .u64 0), .d (.i .u64 0), .d (.i .u64 0), .d (.i .u64 0), .d (.i .u64 0), .d (.i .u64 0), .d (.i .u64 0), .d (.i .u64 0), .d (.i .u64 0), .d (.i .u64 0), .d (.i .u64 0), .d (.i .u64 0), .d (.i .u64 0), .d (.i .u64 0), .d (.i .u64 0), .d (.i .u64 0)]⟩ := rfl
theorem kd203 : tab.kd 203 = some (.arr 20 166) := rfl
theorem ti206 : tab.ti 206 = some ⟨1, 8, .ref, [.d .n]⟩ := rfl
theorem kd206 : tab.kd 206 = some .ref := rfl
def tk := (And.intro (And.intro (And.intro (And.intro (And.intro (And.intro (And.intro (And.intro @ti1 @kd1) (And.intro @ti2 (And.intro @kd2 @ti3))) (And.intro (And.intro @kd3 @ti4) (And.intro @kd4 (And.intro @ti5 @kd5)))) (And.intro (And.intro (And.intro @ti9 @kd9) (And.intro @ti12 (And.intro @kd12 @ti20))) (And.intro (And.intro @kd20 (And.intro @ti21 @kd21)) (And.intro @ti22 (And.intro @kd22 @ti23))))) (And.intro (And.intro (And.intro (And.intro @kd23 @ti24) (And.intro @kd24 (And.intro @ti25 @kd25))) (And.intro (And.intro @ti26 @kd26) (And.intro @ti27 (And.intro @kd27 @ti28)))) (And.intro (And.intro (And.intro @kd28 @ti29) (And.intro @kd29 (And.intro @ti30 @kd30))) (And.intro (And.intro @ti31 (And.intro @kd31 @ti32)) (And.intro @kd32 (And.intro @ti33 @kd33)))))) (And.intro (And.intro (And.intro (And.intro (And.intro @ti34 @kd34) (And.intro @ti35 (And.intro @kd35 @ti36))) (And.intro (And.intro @kd36 @ti37) (And.intro @kd37 (And.intro @ti38 @kd38)))) (And.intro (And.intro (And.intro @ti39 @kd39) (And.intro @ti40 (And.intro @kd40 @ti41))) (And.intro (And.intro @kd41 (And.intro @ti42 @kd42)) (And.intro @ti43 (And.intro @kd43 @ti44))))) (And.intro (And.intro (And.intro (And.intro @kd44 @ti45) (And.intro @kd45 (And.intro @ti46 @kd46))) (And.intro (And.intro @ti47 (And.intro @kd47 @ti48)) (And.intro @kd48 (And.intro @ti49 @kd49)))) (And.intro (And.intro (And.intro @ti50 @kd50) (And.intro @ti52 (And.intro @kd52 @ti53))) (And.intro (And.intro @kd53 (And.intro @ti54 @kd54)) (And.intro @ti55 (And.intro @kd55 @ti56))))))) (And.intro (And.intro (And.intro (And.intro (And.intro (And.intro @kd56 @ti57) (And.intro @kd57 (And.intro @ti58 @kd58))) (And.intro (And.intro @ti59 @kd59) (And.intro @ti60 (And.intro @kd60 @ti61)))) (And.intro (And.intro (And.intro @kd61 @ti62) (And.intro @kd62 (And.intro @ti63 @kd63))) (And.intro (And.intro @ti64 (And.intro @kd64 @ti65)) (And.intro @kd65 (And.intro @ti66 @kd66))))) (And.intro (And.intro (And.intro (And.intro @ti67 @kd67) (And.intro @ti68 (And.intro @kd68 @ti69))) (And.intro (And.intro @kd69 @ti71) (And.intro @kd71 (And.intro @ti73 @kd73)))) (And.intro (And.intro (And.intro @ti74 @kd74) (And.intro @ti75 (And.intro @kd75 @ti76))) (And.intro (And.intro @kd76 (And.intro @ti77 @kd77)) (And.intro @ti78 (And.intro @kd78 @ti79)))))) (And.intro (And.intro (And.intro (And.intro (And.intro @kd79 @ti80) (And.intro @kd80 (And.intro @ti81 @kd81))) (And.intro (And.intro @ti82 @kd82) (And.intro @ti83 (And.intro @kd83 @ti84)))) (And.intro (And.intro (And.intro @kd84 @ti85) (And.intro @kd85 (And.intro @ti86 @kd86))) (And.intro (And.intro @ti87 (And.intro @kd87 @ti88)) (And.intro @kd88 (And.intro @ti89 @kd89))))) (And.intro (And.intro (And.intro (And.intro @ti90 @kd90) (And.intro @ti91 (And.intro @kd91 @ti92))) (And.intro (And.intro @kd92 (And.intro @ti93 @kd93)) (And.intro @ti94 (And.intro @kd94 @ti95)))) (And.intro (And.intro (And.intro @kd95 @ti96) (And.intro @kd96 (And.intro @ti97 @kd97))) (And.intro (And.intro @ti98 (And.intro @kd98 @ti99)) (And.intro @kd99 (And.intro @ti100 @kd100)))))))) (And.intro (And.intro (And.intro (And.intro (And.intro (And.intro (And.intro @ti101 @kd101) (And.intro @ti102 (And.intro @kd102 @ti103))) (And.intro (And.intro @kd103 @ti105) (And.intro @kd105 (And.intro @ti106 @kd106)))) (And.intro (And.intro (And.intro @ti107 @kd107) (And.intro @ti108 (And.intro @kd108 @ti109))) (And.intro (And.intro @kd109 (And.intro @ti110 @kd110)) (And.intro @ti111 (And.intro @kd111 @ti113))))) (And.intro (And.intro (And.intro (And.intro @kd113 @ti114) (And.intro @kd114 (And.intro @ti115 @kd115))) (And.intro (And.intro @ti116 @kd116) (And.intro @ti118 (And.intro @kd118 @ti119)))) (And.intro (And.intro (And.intro @kd119 @ti120) (And.intro @kd120 (And.intro @ti123 @kd123))) (And.intro (And.intro @ti124 (And.intro @kd124 @ti125)) (And.intro @kd125 (And.intro @ti126 @kd126)))))) (And.intro (And.intro (And.intro (And.intro (And.intro @ti127 @kd127) (And.intro @ti128 (And.intro @kd128 @ti129))) (And.intro (And.intro @kd129 @ti130) (And.intro @kd130 (And.intro @ti131 @kd131)))) (And.intro (And.intro (And.intro @ti132 @kd132) (And.intro @ti133 (And.intro @kd133 @ti134))) (And.intro (And.intro @kd134 (And.intro @ti135 @kd135)) (And.intro @ti136 (And.intro @kd136 @ti139))))) (And.intro (And.intro (And.intro (And.intro @kd139 @ti141) (And.intro @kd141 (And.intro @ti142 @kd142))) (And.intro (And.intro @ti143 (And.intro @kd143 @ti144)) (And.intro @kd144 (And.intro @ti145 @kd145)))) (And.intro (And.intro (And.intro @ti146 @kd146) (And.intro @ti147 (And.intro @kd147 @ti148))) (And.intro (And.intro @kd148 (And.intro @ti149 @kd149)) (And.intro @ti150 (And.intro @kd150 @ti153))))))) (And.intro (And.intro (And.intro (And.intro (And.intro (And.intro @kd153 @ti154) (And.intro @kd154 (And.intro @ti155 @kd155))) (And.intro (And.intro @ti156 @kd156) (And.intro @ti157 (And.intro @kd157 @ti159)))) (And.intro (And.intro (And.intro @kd159 @ti160) (And.intro @kd160 (And.intro @ti161 @kd161))) (And.intro (And.intro @ti162 (And.intro @kd162 @ti163)) (And.intro @kd163 (And.intro @ti164 @kd164))))) (And.intro (And.intro (And.intro (And.intro @ti165 @kd165) (And.intro @ti166 (And.intro @kd166 @ti167))) (And.intro (And.intro @kd167 @ti168) (And.intro @kd168 (And.intro @ti169 @kd169)))) (And.intro (And.intro (And.intro @ti170 @kd170) (And.intro @ti171 (And.intro @kd171 @ti172))) (And.intro (And.intro @kd172 (And.intro @ti174 @kd174)) (And.intro @ti175 (And.intro @kd175 @ti176)))))) (And.intro (And.intro (And.intro (And.intro (And.intro @kd176 @ti178) (And.intro @kd178 (And.intro @ti179 @kd179))) (And.intro (And.intro @ti180 @kd180) (And.intro @ti182 (And.intro @kd182 @ti184)))) (And.intro (And.intro (And.intro @kd184 @ti185) (And.intro @kd185 (And.intro @ti186 @kd186))) (And.intro (And.intro @ti188 (And.intro @kd188 @ti189)) (And.intro @kd189 (And.intro @ti190 @kd190))))) (And.intro (And.intro (And.intro (And.intro @ti191 @kd191) (And.intro @ti192 (And.intro @kd192 @ti194))) (And.intro (And.intro @kd194 (And.intro @ti196 @kd196)) (And.intro @ti197 (And.intro @kd197 @ti198)))) (And.intro (And.intro (And.intro @kd198 @ti200) (And.intro @kd200 (And.intro @ti201 @kd201))) (And.intro (And.intro @ti202 (And.intro @kd202 @ti203)) (And.intro @kd203 (And.intro @ti206 @kd206)))))))))
theorem tab_bld : tab.bld = false := rfl
def gv : Nat → Option Summ
 | 49 => some (.own glClone)
 | 158 => some (.own glAtoi)
 | 159 => some (.own glItoa)
 | 160 => some (.own glCut)
 | _ => none
theorem mixed : prog.follows .mixedOrders = true := by decide +kernel
def md : Nat → Nat
 | 11 => 2
 | 12 => 2
 | 37 => 5
 | 53 => 5
 | 54 => 0
 | 55 => 5
 | 56 => 5
 | 57 => 5
 | 66 => 7
 | 76 => 5
 | 77 => 5
 | 78 => 5
 | 79 => 5
 | 85 => 6
 | 87 => 1
 | 91 => 1
 | 106 => 5
 | 107 => 6
 | 108 => 6
 | 109 => 6
 | 110 => 6
 | 124 => 0
 | 125 => 6
 | 126 => 6
 | 128 => 6
 | _ => 0
def sigs : Nat → Sig
 | 3 => ⟨(List WholeSrc) × ByteArray × Unit, Bool⟩
 | 5 => ⟨(List WholeSrc) × Int × Unit, Int⟩
 | 6 => ⟨(List WholeSrc) × ByteArray × Unit, (List ByteArray)⟩
 | 7 => ⟨(List WholeSrc) × Unit, (List WholeSrc)⟩
 | 8 => ⟨(List WholeSrc) × ByteArray × Unit, (List ByteArray)⟩
 | 9 => ⟨(List ByteArray) × (List ByteArray) × Unit, Bool⟩
 | 10 => ⟨(List WholeSrc) × (List WholeSrc) × Unit, Bool⟩
 | 11 => ⟨(List WholeSrc) × Int × Unit, Int × (List WholeSrc)⟩
 | 12 => ⟨(List ByteArray) × Int × Unit, Int × (List ByteArray)⟩
 | 13 => ⟨(List ByteArray) × Int × Unit, Int⟩
 | 16 => ⟨WholeSrc × Int × Unit, Int⟩
 | 17 => ⟨(List WholeSrc) × Unit, (List GraphNode)⟩
 | 18 => ⟨(List ByteArray) × ByteArray × Unit, Bool⟩
 | 19 => ⟨WholeSrc × Unit, WholeSrc⟩
 | 20 => ⟨(List WholeSrc) × Unit, (List GraphNode)⟩
 | 21 => ⟨(List ByteArray) × ByteArray × Unit, Bool⟩
 | 22 => ⟨WholeSrc × WholeSrc × Unit, Bool⟩
 | 23 => ⟨Int × Unit, ByteArray⟩
 | 25 => ⟨(List WholeSrc) × Unit, Bool⟩
 | 26 => ⟨ByteArray × Unit, TreeMod × Int⟩
 | 29 => ⟨(List WholeSrc) × Unit, (List WholeFile)⟩
 | 30 => ⟨(List WholeSrc) × Unit, Bool⟩
 | 33 => ⟨(List WholeFile) × Unit, (List GraphNode)⟩
 | 34 => ⟨(List ByteArray) × ByteArray × Unit, Int⟩
 | 35 => ⟨ByteArray × Unit, Bool⟩
 | 36 => ⟨ByteArray × Unit, (List ByteArray) × Bool⟩
 | 37 => ⟨(Pt L2In) × Unit, (TreeMod) × (Pt L2In)⟩
 | 38 => ⟨TreeMod × Unit, Bool⟩
 | 42 => ⟨Int × Unit, ByteArray⟩
 | 43 => ⟨ByteArray × Unit, TreeMod × Int⟩
 | 44 => ⟨ByteArray × Unit, Bool⟩
 | 50 => ⟨ByteArray × Unit, Bool⟩
 | 51 => ⟨U8 × Unit, Bool⟩
 | 52 => ⟨U8 × Unit, Bool⟩
 | 53 => ⟨(Pt L2In) × ByteArray × Unit, (Unit) × (Pt L2In)⟩
 | 54 => ⟨(Pt L2In) × Unit, ByteArray⟩
 | 55 => ⟨(Pt L2In) × Unit, ((List ByteArray)) × (Pt L2In)⟩
 | 56 => ⟨(Pt L2In) × Bool × Unit, (TreeFun) × (Pt L2In)⟩
 | 57 => ⟨(Pt L2In) × Unit, (TreeExpr) × (Pt L2In)⟩
 | 58 => ⟨(List ByteArray) × Unit, Bool⟩
 | 59 => ⟨TreeMod × Unit, Bool⟩
 | 60 => ⟨TreeFun × Unit, Bool⟩
 | 61 => ⟨TreeExpr × Unit, Bool⟩
 | 65 => ⟨ByteArray × Unit, (List ByteArray) × Bool⟩
 | 66 => ⟨(List ByteArray) × Unit, TreeMod × Bool⟩
 | 67 => ⟨TreeMod × Unit, Bool⟩
 | 68 => ⟨Int × Int × Int × Unit, Bool⟩
 | 69 => ⟨ByteArray × Unit, Bool⟩
 | 76 => ⟨(Pt L2In) × Unit, (ByteArray) × (Pt L2In)⟩
 | 77 => ⟨(Pt L2In) × Unit, (Int) × (Pt L2In)⟩
 | 78 => ⟨(Pt L2In) × Unit, (TreeExpr) × (Pt L2In)⟩
 | 79 => ⟨(Pt L2In) × Unit, (TreeExpr) × (Pt L2In)⟩
 | 80 => ⟨TreeExpr × Unit, Int × Int⟩
 | 81 => ⟨TreeExpr × Unit, Bool⟩
 | 82 => ⟨U8 × Unit, Bool⟩
 | 83 => ⟨U8 × Unit, Bool⟩
 | 85 => ⟨(Pt Reader) × Unit, (Po (TreeMod)) × (Pt Reader)⟩
 | 86 => ⟨(List ByteArray) × Unit, Bool⟩
 | 87 => ⟨(List TreeArg) × Unit, (List ByteArray)⟩
 | 88 => ⟨Int × Unit, Bool⟩
 | 89 => ⟨(List TreeArg) × Fv × Unit, Bool⟩
 | 90 => ⟨TreeArg × Unit, Bool⟩
 | 91 => ⟨TreeMod × Unit, (List TreeExpr)⟩
 | 92 => ⟨TreeExpr × Unit, Int × Int⟩
 | 93 => ⟨TreeExpr × Unit, Bool⟩
 | 101 => ⟨ByteArray × Unit, Int × Bool⟩
 | 102 => ⟨ByteArray × Unit, T3 ByteArray ByteArray Bool⟩
 | 103 => ⟨ByteArray × Unit, Int⟩
 | 104 => ⟨TreeExpr × Bool × Bool × Bool × Unit, Bool⟩
 | 105 => ⟨ByteArray × Unit, Int⟩
 | 106 => ⟨(Pt Reader) × (List ByteArray) × Unit, (Bool) × (Pt Reader)⟩
 | 107 => ⟨(Pt Reader) × Unit, (Po (ByteArray)) × (Pt Reader)⟩
 | 108 => ⟨(Pt Reader) × Bool × Unit, (Po (TreeFun)) × (Pt Reader)⟩
 | 109 => ⟨(Pt Reader) × Unit, (Po (TreeExpr)) × (Pt Reader)⟩
 | 110 => ⟨(Pt Reader) × ByteArray × Unit, (Po (Unit)) × (Pt Reader)⟩
 | 111 => ⟨(List TreeArg) × Fv × Unit, Int⟩
 | 112 => ⟨TreeExpr × Unit, Bool⟩
 | 121 => ⟨ByteArray × Unit, Int × Bool⟩
 | 122 => ⟨ByteArray × U8 × Unit, Int⟩
 | 123 => ⟨Unit, (List ByteArray)⟩
 | 124 => ⟨(Pt Reader) × (List ByteArray) × Unit, Bool⟩
 | 125 => ⟨(Pt Reader) × Unit, (Po (ByteArray)) × (Pt Reader)⟩
 | 126 => ⟨(Pt Reader) × Unit, (Po (Int)) × (Pt Reader)⟩
 | 127 => ⟨ByteArray × Unit, Int × Bool⟩
 | 128 => ⟨(Pt Reader) × Unit, (Po (TreeExpr)) × (Pt Reader)⟩
 | 129 => ⟨TreeExpr × Unit, Bool⟩
 | 130 => ⟨(List TreeExpr) × Fv × Unit, Bool⟩
 | 131 => ⟨TreeExpr × Unit, Bool⟩
 | 145 => ⟨(List ByteArray) × (List ByteArray) × Unit, Bool⟩
 | 146 => ⟨ByteArray × Unit, Int⟩
 | 147 => ⟨ByteArray × Unit, Int × Bool⟩
 | 148 => ⟨Int × Unit, Bool⟩
 | 149 => ⟨ByteArray × Unit, T3 ByteArray ByteArray Bool⟩
 | 150 => ⟨ByteArray × Unit, Int⟩
 | 151 => ⟨(List TreeExpr) × Fv × Unit, Int⟩
 | _ => noSig
end Go.Fs.Se
namespace Go.Fs.Se
open Go.Proofs.Tryz (prog)
def lv0 : Nat → Nat → List Nat
 | 5, 5 => [0, 1, 5]
 | 6, 4 => [1, 5, 6, 7]
 | 7, 3 => [0, 3, 4]
 | 8, 3 => [1, 5, 10, 11, 12]
 | 9, 4 => [0, 1, 5]
 | 10, 4 => [0, 1, 5]
 | 11, 2 => [0, 1, 5]
 | 12, 2 => [0, 1, 5]
 | 13, 2 => [0, 1, 5]
 | 14, 8 => [5, 9, 10]
 | 17, 5 => [0, 3, 4]
 | 18, 2 => [0, 1, 5]
 | 23, 4 => [0, 3]
 | 24, 2 => [0, 1, 5]
 | 25, 4 => [0, 3]
 | 27, 3 => [0, 3, 5, 6]
 | 28, 5 => [0, 3, 4]
 | 29, 3 => [3, 9, 10, 11]
 | 30, 2 => [0, 5, 6, 7]
 | 32, 3 => [5, 11, 12, 13]
 | 33, 3 => [3, 7, 8, 9]
 | 34, 2 => [0, 1, 7, 8]
 | 35, 4 => [0, 3]
 | 36, 6 => [0, 4, 5, 6]
 | 37, 2 => [0, 2, 3]
 | 38, 5 => [1, 3, 4]
 | 39, 5 => [1, 3, 4]
 | 40, 4 => [0, 3]
 | 41, 3 => [0, 3, 4]
 | 44, 2 => [0, 5, 6]
 | 45, 2 => [0, 1, 7, 8]
 | 47, 3 => [0, 5, 11, 12, 13]
 | 48, 5 => [3, 9, 10, 11]
 | 50, 3 => [0, 3, 4]
 | 55, 2 => [0, 3]
 | 56, 3 => [0, 4, 5]
 | 57, 5 => [0, 2, 3]
 | 58, 2 => [0, 3]
 | 58, 7 => [0, 3, 4]
 | 59, 3 => [1, 3, 4]
 | 60, 4 => [1, 3]
 | 60, 9 => [1, 3, 4]
 | 61, 4 => [1, 3]
 | 62, 2 => [0, 3, 5]
 | 63, 3 => [1, 2, 3, 4]
 | 64, 4 => [1, 3]
 | 65, 5 => [0, 4, 5, 14, 15]
 | 67, 5 => [1, 3, 4, 35, 36, 37]
 | 67, 12 => [3, 4, 70, 71, 72]
 | 70, 3 => [3, 8, 9, 10]
 | 71, 2 => [0, 5, 6, 7]
 | 73, 3 => [3, 7, 8, 9]
 | 77, 4 => [0, 3, 4]
 | 80, 4 => [1, 4, 5, 6]
 | 85, 3 => [0, 2, 3]
 | 85, 4 => [0, 2, 3]
 | 86, 2 => [0, 5, 6, 7]
 | 87, 3 => [3, 7, 8, 9]
 | 91, 3 => [1, 3, 8, 9, 10]
 | 92, 3 => [4, 5, 11, 12, 13]
 | 100, 12 => [0, 1, 5, 39, 40, 41]
 | 100, 22 => [1, 8, 63, 64, 65]
 | 103, 3 => [0, 3, 4]
 | 108, 3 => [0, 4, 5]
 | 111, 2 => [0, 1, 7, 8]
 | 113, 3 => [3, 7, 8, 9]
 | 114, 1 => [0, 1, 2, 3, 4, 10, 11]
 | 121, 8 => [0, 4, 5, 6]
 | 122, 2 => [0, 1, 5]
 | 128, 16 => [0, 2, 4]
 | 132, 1 => [0, 1, 2, 3, 8]
 | 132, 4 => [0, 1, 2, 3, 8, 9]
 | 133, 4 => [0, 3, 8, 9, 10, 11]
 | 133, 8 => [0, 3, 8, 9, 12]
 | 134, 5 => [0, 1, 8, 9, 10, 11]
 | 136, 2 => [0, 8, 9]
 | 137, 3 => [0, 1, 2, 3, 9, 10]
 | 137, 5 => [0, 1, 2, 3, 9, 10]
 | 137, 14 => [0, 1, 2, 3, 9, 10, 11]
 | 137, 20 => [0, 1, 2, 3, 9, 10, 12]
 | 138, 1 => [0, 1, 4, 11, 12]
 | 138, 3 => [0, 1, 4, 11, 12]
 | 138, 5 => [0, 1, 4, 11, 12]
 | 139, 3 => [0, 1, 4, 12, 13]
 | 139, 5 => [0, 1, 4, 12, 13]
 | 139, 13 => [0, 1, 4, 12, 13]
 | 139, 15 => [0, 1, 4, 12, 13]
 | 143, 2 => [0, 1, 7, 8]
 | 145, 4 => [0, 1, 12, 13]
 | 151, 2 => [0, 1, 7, 8]
 | 152, 1 => [0, 2, 3, 4, 10]
 | 162, 10 => [5, 6, 47, 48, 49]
 | 172, 15 => [0, 1, 5, 6, 7, 8, 9, 10]
 | 173, 36 => [1, 8, 9, 10, 11, 12, 13, 99, 100, 101]
 | 178, 1 => [0, 1, 4]
 | 179, 11 => [0, 1, 3, 4, 10, 11, 12, 13, 14, 15, 16]
 | 179, 18 => [0, 1, 3, 4, 10, 11, 12, 13, 17]
 | 183, 5 => [0, 1, 5, 6, 7, 8, 9]
 | 183, 11 => [0, 1, 5, 6, 7, 8, 10]
 | 185, 10 => [0, 3, 4, 5]
 | 191, 3 => [0, 4, 5]
 | 191, 8 => [4, 6, 7, 8]
 | _, _ => []
def plT : Nat → List (Nat × List Nat)
 | 17 => [(8, [0, 3007, 3010, 4007, 4010, 5007, 5010, 7000, 8000])]
 | 27 => [(8, [0, 1008, 2008, 4008, 5008])]
 | 33 => [(5, [0, 1007, 2007])]
 | 37 => [(10, [0, 6, 7, 1006, 1007])]
 | 48 => [(7, [0, 6, 11, 1006, 1011, 8000, 9000])]
 | 57 => [(6, [0, 4, 5, 1004, 1005])]
 | 63 => [(5, [0, 9, 1009])]
 | 66 => [(2, [9])]
 | 84 => [(4, [8])]
 | 85 => [(3, [9, 4, 5, 1004, 1005]), (5, [9, 4, 5, 1004, 1005]), (7, [9, 4, 5, 1004, 1005]), (9, [9, 4, 5, 1004, 1005]), (11, [9, 4, 5, 1004, 1005]), (12, [9]), (14, [8])]
 | 94 => [(1, [0, 5, 1005, 5000, 6000])]
 | 100 => [(9, [8]), (15, [8])]
 | 107 => [(1, [9]), (3, [8])]
 | 108 => [(1, [9]), (2, [9]), (4, [9]), (5, [9, 4, 6, 8, 1004, 1006, 1008]), (6, [9]), (7, [9]), (8, [9])]
 | 109 => [(1, [9]), (4, [9]), (12, [8])]
 | 110 => [(0, [9]), (1, [8])]
 | 120 => [(2, [8])]
 | 125 => [(2, [8])]
 | 126 => [(1, [9]), (3, [8])]
 | 128 => [(1, [9]), (3, [8]), (9, [9]), (17, [9, 4, 5, 1004, 1005])]
 | 132 => [(6, [0])]
 | 133 => [(10, [0])]
 | 134 => [(10, [0])]
 | 136 => [(3, [0])]
 | 137 => [(11, [0]), (17, [0]), (23, [0])]
 | 138 => [(1, [0]), (8, [0])]
 | 139 => [(1, [0]), (8, [0]), (10, [0]), (18, [0]), (21, [0])]
 | 144 => [(0, [0, 10000, 11000, 12000, 13000])]
 | 152 => [(6, [0])]
 | 154 => [(1, [0]), (2, [0]), (3, [0])]
 | 167 => [(1, [0, 3000])]
 | 168 => [(1, [0, 3000])]
 | 178 => [(7, [0]), (8, [0]), (9, [0]), (10, [0]), (17, [0]), (18, [0]), (23, [0])]
 | 179 => [(2, [8])]
 | _ => []
def lvT (f n : Nat) : List Nat := if 5000 ≤ n then ((plT f).lookup (n - 5000)).getD [] else lv0 f n
theorem lv_pl (f id : Nat) : lvT f (rkey id) = ((plT f).lookup id).getD [] := by unfold lvT rkey; rw [if_pos (by omega), Nat.add_sub_cancel_left]
def bx66 : List D → Option (List D)
 | [.l sz xs] => some [.l sz xs]
 | _ => none
def ok66 : D → Option D
 | .g [a, b, c] => some (.t [.g [a, b, c], .b true])
 | _ => none
def pan66 (te : Nat) (ns : List Int) : Option D := if te = 120 ∧ ns = [] then some (.t [.g [.l 1 [], .l 9 [], .l 5 []], .b false]) else none
def gd66 : Gd := Gd.mk 85 bx66 ok66 pan66
def gdT : Nat → Option Gd
 | 66 => some gd66
 | _ => none
noncomputable def M : Prm := { gd := gdT, P := prog, T := tab, given := gv, mode := md, achk := fun f => sigA (sigs f), chk := fun f => sigR (sigs f), lv := lvT }
theorem E0_T (aa : AV) : (envOf M aa).T = tab := rfl
theorem E0_aa (aa : AV) : (envOf M aa).aa = aa := rfl
theorem M_T : M.T = tab := rfl
theorem M_lv : M.lv = lvT := rfl
def seS := And.intro tk (And.intro tyS (And.intro @E0_T (And.intro @E0_aa (And.intro M_T (And.intro M_lv tab_bld)))))
end Go.Fs.Se
namespace Go.Fs.Se
open Cel (cel unc)
open Dat (enc dec)
open Arg (ea da)
theorem c49 : (∀ {ρ : Type} (ds : List D) (F : D → Option ρ), (glClone ds).bind F = (da (α := List ByteArray × Unit) ds).bind (callN (fun x => lClone x.1) F)) ∧ ∀ aa, (envOf M aa).S 49 = some (.own glClone) := ⟨fun ds F => ownG_K _ ds F, fun _ => rfl⟩
theorem c158 : (∀ {ρ : Type} (ds : List D) (F : D → Option ρ), (glAtoi ds).bind F = (da (α := ByteArray × Unit) ds).bind (callN (fun x => lAtoi x.1) F)) ∧ ∀ aa, (envOf M aa).S 158 = some (.own glAtoi) := ⟨fun ds F => ownG_K _ ds F, fun _ => rfl⟩
theorem c159 : (∀ {ρ : Type} (ds : List D) (F : D → Option ρ), (glItoa ds).bind F = (da (α := Int × Unit) ds).bind (callN (fun x => lItoa x.1) F)) ∧ ∀ aa, (envOf M aa).S 159 = some (.own glItoa) := ⟨fun ds F => ownG_K _ ds F, fun _ => rfl⟩
theorem c160 : (∀ {ρ : Type} (ds : List D) (F : D → Option ρ), (glCut ds).bind F = (da (α := ByteArray × ByteArray × Unit) ds).bind (callN (fun x => lCut x.1 x.2.1) F)) ∧ ∀ aa, (envOf M aa).S 160 = some (.own glCut) := ⟨fun ds F => ownG_K _ ds F, fun _ => rfl⟩
theorem h3 : Has M 3 ((List WholeSrc) × ByteArray × Unit) (Bool) := ⟨fun _ => rfl, fun _ => rfl⟩
noncomputable def n3 (a0 : (List WholeSrc)) (a1 : ByteArray) : Option (Bool) := fnO M 3 (Bool) (a0, a1, ())
theorem c3 : (∀ {ρ : Type} (ds : List D) (F : D → Option ρ), ((lastR M).o 3 ds).bind F = (da (α := (List WholeSrc) × ByteArray × Unit) ds).bind (callN (fun x => n3 x.1 x.2.1) F)) ∧ ∀ aa, (envOf M aa).S 3 = some (.own ((lastR M).o 3)) := ⟨fun ds F => call_oK h3 ds F, fun _ => rfl⟩
theorem m3 : M.mode 3 = 0 := rfl
noncomputable def cd3 : Code := match Go.Proofs.Tryz.f3.body with | some c => c | none => .skip
theorem pl3 : plT 3 = [] := rfl
theorem h5 : Has M 5 ((List WholeSrc) × Int × Unit) (Int) := ⟨fun _ => rfl, fun _ => rfl⟩
noncomputable def n5 (a0 : (List WholeSrc)) (a1 : Int) : Option (Int) := fnO M 5 (Int) (a0, a1, ())
theorem c5 : (∀ {ρ : Type} (ds : List D) (F : D → Option ρ), ((lastR M).o 5 ds).bind F = (da (α := (List WholeSrc) × Int × Unit) ds).bind (callN (fun x => n5 x.1 x.2.1) F)) ∧ ∀ aa, (envOf M aa).S 5 = some (.own ((lastR M).o 5)) := ⟨fun ds F => call_oK h5 ds F, fun _ => rfl⟩
theorem m5 : M.mode 5 = 0 := rfl
noncomputable def cd5 : Code := match Go.Proofs.Tryz.f5.body with | some c => c | none => .skip
theorem pl5 : plT 5 = [] := rfl
theorem lv5_5 : lvT 5 5 = [0, 1, 5] := rfl
theorem h6 : Has M 6 ((List WholeSrc) × ByteArray × Unit) ((List ByteArray)) := ⟨fun _ => rfl, fun _ => rfl⟩
noncomputable def n6 (a0 : (List WholeSrc)) (a1 : ByteArray) : Option ((List ByteArray)) := fnO M 6 ((List ByteArray)) (a0, a1, ())
theorem c6 : (∀ {ρ : Type} (ds : List D) (F : D → Option ρ), ((lastR M).o 6 ds).bind F = (da (α := (List WholeSrc) × ByteArray × Unit) ds).bind (callN (fun x => n6 x.1 x.2.1) F)) ∧ ∀ aa, (envOf M aa).S 6 = some (.own ((lastR M).o 6)) := ⟨fun ds F => call_oK h6 ds F, fun _ => rfl⟩
theorem m6 : M.mode 6 = 0 := rfl
noncomputable def cd6 : Code := match Go.Proofs.Tryz.f6.body with | some c => c | none => .skip
theorem pl6 : plT 6 = [] := rfl
theorem lv6_4 : lvT 6 4 = [1, 5, 6, 7] := rfl
theorem h7 : Has M 7 ((List WholeSrc) × Unit) ((List WholeSrc)) := ⟨fun _ => rfl, fun _ => rfl⟩
noncomputable def n7 (a0 : (List WholeSrc)) : Option ((List WholeSrc)) := fnO M 7 ((List WholeSrc)) (a0, ())
theorem c7 : (∀ {ρ : Type} (ds : List D) (F : D → Option ρ), ((lastR M).o 7 ds).bind F = (da (α := (List WholeSrc) × Unit) ds).bind (callN (fun x => n7 x.1) F)) ∧ ∀ aa, (envOf M aa).S 7 = some (.own ((lastR M).o 7)) := ⟨fun ds F => call_oK h7 ds F, fun _ => rfl⟩
theorem m7 : M.mode 7 = 0 := rfl
noncomputable def cd7 : Code := match Go.Proofs.Tryz.f7.body with | some c => c | none => .skip
theorem pl7 : plT 7 = [] := rfl
theorem lv7_3 : lvT 7 3 = [0, 3, 4] := rfl
theorem h8 : Has M 8 ((List WholeSrc) × ByteArray × Unit) ((List ByteArray)) := ⟨fun _ => rfl, fun _ => rfl⟩
noncomputable def n8 (a0 : (List WholeSrc)) (a1 : ByteArray) : Option ((List ByteArray)) := fnO M 8 ((List ByteArray)) (a0, a1, ())
theorem c8 : (∀ {ρ : Type} (ds : List D) (F : D → Option ρ), ((lastR M).o 8 ds).bind F = (da (α := (List WholeSrc) × ByteArray × Unit) ds).bind (callN (fun x => n8 x.1 x.2.1) F)) ∧ ∀ aa, (envOf M aa).S 8 = some (.own ((lastR M).o 8)) := ⟨fun ds F => call_oK h8 ds F, fun _ => rfl⟩
theorem m8 : M.mode 8 = 0 := rfl
noncomputable def cd8 : Code := match Go.Proofs.Tryz.f8.body with | some c => c | none => .skip
theorem pl8 : plT 8 = [] := rfl
theorem lv8_3 : lvT 8 3 = [1, 5, 10, 11, 12] := rfl
theorem h9 : Has M 9 ((List ByteArray) × (List ByteArray) × Unit) (Bool) := ⟨fun _ => rfl, fun _ => rfl⟩
noncomputable def n9 (a0 : (List ByteArray)) (a1 : (List ByteArray)) : Option (Bool) := fnO M 9 (Bool) (a0, a1, ())
theorem c9 : (∀ {ρ : Type} (ds : List D) (F : D → Option ρ), ((lastR M).o 9 ds).bind F = (da (α := (List ByteArray) × (List ByteArray) × Unit) ds).bind (callN (fun x => n9 x.1 x.2.1) F)) ∧ ∀ aa, (envOf M aa).S 9 = some (.own ((lastR M).o 9)) := ⟨fun ds F => call_oK h9 ds F, fun _ => rfl⟩
theorem m9 : M.mode 9 = 0 := rfl
noncomputable def cd9 : Code := match Go.Proofs.Tryz.f9.body with | some c => c | none => .skip
theorem pl9 : plT 9 = [] := rfl
theorem lv9_4 : lvT 9 4 = [0, 1, 5] := rfl
theorem h10 : Has M 10 ((List WholeSrc) × (List WholeSrc) × Unit) (Bool) := ⟨fun _ => rfl, fun _ => rfl⟩
noncomputable def n10 (a0 : (List WholeSrc)) (a1 : (List WholeSrc)) : Option (Bool) := fnO M 10 (Bool) (a0, a1, ())
theorem c10 : (∀ {ρ : Type} (ds : List D) (F : D → Option ρ), ((lastR M).o 10 ds).bind F = (da (α := (List WholeSrc) × (List WholeSrc) × Unit) ds).bind (callN (fun x => n10 x.1 x.2.1) F)) ∧ ∀ aa, (envOf M aa).S 10 = some (.own ((lastR M).o 10)) := ⟨fun ds F => call_oK h10 ds F, fun _ => rfl⟩
theorem m10 : M.mode 10 = 0 := rfl
noncomputable def cd10 : Code := match Go.Proofs.Tryz.f10.body with | some c => c | none => .skip
theorem pl10 : plT 10 = [] := rfl
theorem lv10_4 : lvT 10 4 = [0, 1, 5] := rfl
theorem h11 : Has M 11 ((List WholeSrc) × Int × Unit) (Int × (List WholeSrc)) := ⟨fun _ => rfl, fun _ => rfl⟩
noncomputable def n11 (a0 : (List WholeSrc)) (a1 : Int) : Option (Int × (List WholeSrc)) := fnI M 11 (Int) (a0, a1, ())
theorem c11 : (∀ {ρ : Type} (x : D) (ds : List D) (F : D × D → Option ρ), ((lastR M).i 11 x ds).bind F = (da (α := (List WholeSrc) × Int × Unit) (x :: ds)).bind (callI (fun x => n11 x.1 x.2.1) F)) ∧ ∀ aa, (envOf M aa).S 11 = some (.io ((lastR M).i 11)) := ⟨fun x ds F => call_iK h11 x ds F, fun _ => rfl⟩
theorem m11 : M.mode 11 = 2 := rfl
noncomputable def cd11 : Code := match Go.Proofs.Tryz.f11.body with | some c => c | none => .skip
theorem pl11 : plT 11 = [] := rfl
theorem lv11_2 : lvT 11 2 = [0, 1, 5] := rfl
theorem h12 : Has M 12 ((List ByteArray) × Int × Unit) (Int × (List ByteArray)) := ⟨fun _ => rfl, fun _ => rfl⟩
noncomputable def n12 (a0 : (List ByteArray)) (a1 : Int) : Option (Int × (List ByteArray)) := fnI M 12 (Int) (a0, a1, ())
theorem c12 : (∀ {ρ : Type} (x : D) (ds : List D) (F : D × D → Option ρ), ((lastR M).i 12 x ds).bind F = (da (α := (List ByteArray) × Int × Unit) (x :: ds)).bind (callI (fun x => n12 x.1 x.2.1) F)) ∧ ∀ aa, (envOf M aa).S 12 = some (.io ((lastR M).i 12)) := ⟨fun x ds F => call_iK h12 x ds F, fun _ => rfl⟩
theorem m12 : M.mode 12 = 2 := rfl
noncomputable def cd12 : Code := match Go.Proofs.Tryz.f12.body with | some c => c | none => .skip
theorem pl12 : plT 12 = [] := rfl
theorem lv12_2 : lvT 12 2 = [0, 1, 5] := rfl
theorem h13 : Has M 13 ((List ByteArray) × Int × Unit) (Int) := ⟨fun _ => rfl, fun _ => rfl⟩
noncomputable def n13 (a0 : (List ByteArray)) (a1 : Int) : Option (Int) := fnO M 13 (Int) (a0, a1, ())
theorem c13 : (∀ {ρ : Type} (ds : List D) (F : D → Option ρ), ((lastR M).o 13 ds).bind F = (da (α := (List ByteArray) × Int × Unit) ds).bind (callN (fun x => n13 x.1 x.2.1) F)) ∧ ∀ aa, (envOf M aa).S 13 = some (.own ((lastR M).o 13)) := ⟨fun ds F => call_oK h13 ds F, fun _ => rfl⟩
theorem m13 : M.mode 13 = 0 := rfl
noncomputable def cd13 : Code := match Go.Proofs.Tryz.f13.body with | some c => c | none => .skip
theorem pl13 : plT 13 = [] := rfl
theorem lv13_2 : lvT 13 2 = [0, 1, 5] := rfl
theorem h16 : Has M 16 (WholeSrc × Int × Unit) (Int) := ⟨fun _ => rfl, fun _ => rfl⟩
noncomputable def n16 (a0 : WholeSrc) (a1 : Int) : Option (Int) := fnO M 16 (Int) (a0, a1, ())
theorem c16 : (∀ {ρ : Type} (ds : List D) (F : D → Option ρ), ((lastR M).o 16 ds).bind F = (da (α := WholeSrc × Int × Unit) ds).bind (callN (fun x => n16 x.1 x.2.1) F)) ∧ ∀ aa, (envOf M aa).S 16 = some (.own ((lastR M).o 16)) := ⟨fun ds F => call_oK h16 ds F, fun _ => rfl⟩
theorem m16 : M.mode 16 = 0 := rfl
noncomputable def cd16 : Code := match Go.Proofs.Tryz.f16.body with | some c => c | none => .skip
theorem pl16 : plT 16 = [] := rfl
theorem h17 : Has M 17 ((List WholeSrc) × Unit) ((List GraphNode)) := ⟨fun _ => rfl, fun _ => rfl⟩
noncomputable def n17 (a0 : (List WholeSrc)) : Option ((List GraphNode)) := fnO M 17 ((List GraphNode)) (a0, ())
theorem c17 : (∀ {ρ : Type} (ds : List D) (F : D → Option ρ), ((lastR M).o 17 ds).bind F = (da (α := (List WholeSrc) × Unit) ds).bind (callN (fun x => n17 x.1) F)) ∧ ∀ aa, (envOf M aa).S 17 = some (.own ((lastR M).o 17)) := ⟨fun ds F => call_oK h17 ds F, fun _ => rfl⟩
theorem m17 : M.mode 17 = 0 := rfl
noncomputable def cd17 : Code := match Go.Proofs.Tryz.f17.body with | some c => c | none => .skip
theorem pl17 : plT 17 = [(8, [0, 3007, 3010, 4007, 4010, 5007, 5010, 7000, 8000])] := rfl
theorem lv17_5 : lvT 17 5 = [0, 3, 4] := rfl
theorem h18 : Has M 18 ((List ByteArray) × ByteArray × Unit) (Bool) := ⟨fun _ => rfl, fun _ => rfl⟩
noncomputable def n18 (a0 : (List ByteArray)) (a1 : ByteArray) : Option (Bool) := fnO M 18 (Bool) (a0, a1, ())
theorem c18 : (∀ {ρ : Type} (ds : List D) (F : D → Option ρ), ((lastR M).o 18 ds).bind F = (da (α := (List ByteArray) × ByteArray × Unit) ds).bind (callN (fun x => n18 x.1 x.2.1) F)) ∧ ∀ aa, (envOf M aa).S 18 = some (.own ((lastR M).o 18)) := ⟨fun ds F => call_oK h18 ds F, fun _ => rfl⟩
theorem m18 : M.mode 18 = 0 := rfl
noncomputable def cd18 : Code := match Go.Proofs.Tryz.f18.body with | some c => c | none => .skip
theorem pl18 : plT 18 = [] := rfl
theorem lv18_2 : lvT 18 2 = [0, 1, 5] := rfl
theorem h19 : Has M 19 (WholeSrc × Unit) (WholeSrc) := ⟨fun _ => rfl, fun _ => rfl⟩
noncomputable def n19 (a0 : WholeSrc) : Option (WholeSrc) := fnO M 19 (WholeSrc) (a0, ())
theorem c19 : (∀ {ρ : Type} (ds : List D) (F : D → Option ρ), ((lastR M).o 19 ds).bind F = (da (α := WholeSrc × Unit) ds).bind (callN (fun x => n19 x.1) F)) ∧ ∀ aa, (envOf M aa).S 19 = some (.own ((lastR M).o 19)) := ⟨fun ds F => call_oK h19 ds F, fun _ => rfl⟩
theorem m19 : M.mode 19 = 0 := rfl
noncomputable def cd19 : Code := match Go.Proofs.Tryz.f19.body with | some c => c | none => .skip
theorem pl19 : plT 19 = [] := rfl
theorem h20 : Has M 20 ((List WholeSrc) × Unit) ((List GraphNode)) := ⟨fun _ => rfl, fun _ => rfl⟩
noncomputable def n20 (a0 : (List WholeSrc)) : Option ((List GraphNode)) := fnO M 20 ((List GraphNode)) (a0, ())
theorem c20 : (∀ {ρ : Type} (ds : List D) (F : D → Option ρ), ((lastR M).o 20 ds).bind F = (da (α := (List WholeSrc) × Unit) ds).bind (callN (fun x => n20 x.1) F)) ∧ ∀ aa, (envOf M aa).S 20 = some (.own ((lastR M).o 20)) := ⟨fun ds F => call_oK h20 ds F, fun _ => rfl⟩
theorem m20 : M.mode 20 = 0 := rfl
noncomputable def cd20 : Code := match Go.Proofs.Tryz.f20.body with | some c => c | none => .skip
theorem pl20 : plT 20 = [] := rfl
theorem h21 : Has M 21 ((List ByteArray) × ByteArray × Unit) (Bool) := ⟨fun _ => rfl, fun _ => rfl⟩
noncomputable def n21 (a0 : (List ByteArray)) (a1 : ByteArray) : Option (Bool) := fnO M 21 (Bool) (a0, a1, ())
theorem c21 : (∀ {ρ : Type} (ds : List D) (F : D → Option ρ), ((lastR M).o 21 ds).bind F = (da (α := (List ByteArray) × ByteArray × Unit) ds).bind (callN (fun x => n21 x.1 x.2.1) F)) ∧ ∀ aa, (envOf M aa).S 21 = some (.own ((lastR M).o 21)) := ⟨fun ds F => call_oK h21 ds F, fun _ => rfl⟩
theorem m21 : M.mode 21 = 0 := rfl
noncomputable def cd21 : Code := match Go.Proofs.Tryz.f21.body with | some c => c | none => .skip
theorem pl21 : plT 21 = [] := rfl
theorem h22 : Has M 22 (WholeSrc × WholeSrc × Unit) (Bool) := ⟨fun _ => rfl, fun _ => rfl⟩
noncomputable def n22 (a0 : WholeSrc) (a1 : WholeSrc) : Option (Bool) := fnO M 22 (Bool) (a0, a1, ())
theorem c22 : (∀ {ρ : Type} (ds : List D) (F : D → Option ρ), ((lastR M).o 22 ds).bind F = (da (α := WholeSrc × WholeSrc × Unit) ds).bind (callN (fun x => n22 x.1 x.2.1) F)) ∧ ∀ aa, (envOf M aa).S 22 = some (.own ((lastR M).o 22)) := ⟨fun ds F => call_oK h22 ds F, fun _ => rfl⟩
theorem m22 : M.mode 22 = 0 := rfl
noncomputable def cd22 : Code := match Go.Proofs.Tryz.f22.body with | some c => c | none => .skip
theorem pl22 : plT 22 = [] := rfl
theorem h23 : Has M 23 (Int × Unit) (ByteArray) := ⟨fun _ => rfl, fun _ => rfl⟩
noncomputable def n23 (a0 : Int) : Option (ByteArray) := fnO M 23 (ByteArray) (a0, ())
theorem c23 : (∀ {ρ : Type} (ds : List D) (F : D → Option ρ), ((lastR M).o 23 ds).bind F = (da (α := Int × Unit) ds).bind (callN (fun x => n23 x.1) F)) ∧ ∀ aa, (envOf M aa).S 23 = some (.own ((lastR M).o 23)) := ⟨fun ds F => call_oK h23 ds F, fun _ => rfl⟩
theorem m23 : M.mode 23 = 0 := rfl
noncomputable def cd23 : Code := match Go.Proofs.Tryz.f23.body with | some c => c | none => .skip
theorem pl23 : plT 23 = [] := rfl
theorem lv23_4 : lvT 23 4 = [0, 3] := rfl
theorem h25 : Has M 25 ((List WholeSrc) × Unit) (Bool) := ⟨fun _ => rfl, fun _ => rfl⟩
noncomputable def n25 (a0 : (List WholeSrc)) : Option (Bool) := fnO M 25 (Bool) (a0, ())
theorem c25 : (∀ {ρ : Type} (ds : List D) (F : D → Option ρ), ((lastR M).o 25 ds).bind F = (da (α := (List WholeSrc) × Unit) ds).bind (callN (fun x => n25 x.1) F)) ∧ ∀ aa, (envOf M aa).S 25 = some (.own ((lastR M).o 25)) := ⟨fun ds F => call_oK h25 ds F, fun _ => rfl⟩
theorem m25 : M.mode 25 = 0 := rfl
noncomputable def cd25 : Code := match Go.Proofs.Tryz.f25.body with | some c => c | none => .skip
theorem pl25 : plT 25 = [] := rfl
theorem lv25_4 : lvT 25 4 = [0, 3] := rfl
theorem h26 : Has M 26 (ByteArray × Unit) (TreeMod × Int) := ⟨fun _ => rfl, fun _ => rfl⟩
noncomputable def n26 (a0 : ByteArray) : Option (TreeMod × Int) := fnO M 26 (TreeMod × Int) (a0, ())
theorem c26 : (∀ {ρ : Type} (ds : List D) (F : D → Option ρ), ((lastR M).o 26 ds).bind F = (da (α := ByteArray × Unit) ds).bind (callN (fun x => n26 x.1) F)) ∧ ∀ aa, (envOf M aa).S 26 = some (.own ((lastR M).o 26)) := ⟨fun ds F => call_oK h26 ds F, fun _ => rfl⟩
theorem m26 : M.mode 26 = 0 := rfl
noncomputable def cd26 : Code := match Go.Proofs.Tryz.f26.body with | some c => c | none => .skip
theorem pl26 : plT 26 = [] := rfl
theorem h29 : Has M 29 ((List WholeSrc) × Unit) ((List WholeFile)) := ⟨fun _ => rfl, fun _ => rfl⟩
noncomputable def n29 (a0 : (List WholeSrc)) : Option ((List WholeFile)) := fnO M 29 ((List WholeFile)) (a0, ())
theorem c29 : (∀ {ρ : Type} (ds : List D) (F : D → Option ρ), ((lastR M).o 29 ds).bind F = (da (α := (List WholeSrc) × Unit) ds).bind (callN (fun x => n29 x.1) F)) ∧ ∀ aa, (envOf M aa).S 29 = some (.own ((lastR M).o 29)) := ⟨fun ds F => call_oK h29 ds F, fun _ => rfl⟩
theorem m29 : M.mode 29 = 0 := rfl
noncomputable def cd29 : Code := match Go.Proofs.Tryz.f29.body with | some c => c | none => .skip
theorem pl29 : plT 29 = [] := rfl
theorem lv29_3 : lvT 29 3 = [3, 9, 10, 11] := rfl
theorem h30 : Has M 30 ((List WholeSrc) × Unit) (Bool) := ⟨fun _ => rfl, fun _ => rfl⟩
noncomputable def n30 (a0 : (List WholeSrc)) : Option (Bool) := fnO M 30 (Bool) (a0, ())
theorem c30 : (∀ {ρ : Type} (ds : List D) (F : D → Option ρ), ((lastR M).o 30 ds).bind F = (da (α := (List WholeSrc) × Unit) ds).bind (callN (fun x => n30 x.1) F)) ∧ ∀ aa, (envOf M aa).S 30 = some (.own ((lastR M).o 30)) := ⟨fun ds F => call_oK h30 ds F, fun _ => rfl⟩
theorem m30 : M.mode 30 = 0 := rfl
noncomputable def cd30 : Code := match Go.Proofs.Tryz.f30.body with | some c => c | none => .skip
theorem pl30 : plT 30 = [] := rfl
theorem lv30_2 : lvT 30 2 = [0, 5, 6, 7] := rfl
theorem h33 : Has M 33 ((List WholeFile) × Unit) ((List GraphNode)) := ⟨fun _ => rfl, fun _ => rfl⟩
noncomputable def n33 (a0 : (List WholeFile)) : Option ((List GraphNode)) := fnO M 33 ((List GraphNode)) (a0, ())
theorem c33 : (∀ {ρ : Type} (ds : List D) (F : D → Option ρ), ((lastR M).o 33 ds).bind F = (da (α := (List WholeFile) × Unit) ds).bind (callN (fun x => n33 x.1) F)) ∧ ∀ aa, (envOf M aa).S 33 = some (.own ((lastR M).o 33)) := ⟨fun ds F => call_oK h33 ds F, fun _ => rfl⟩
theorem m33 : M.mode 33 = 0 := rfl
noncomputable def cd33 : Code := match Go.Proofs.Tryz.f33.body with | some c => c | none => .skip
theorem pl33 : plT 33 = [(5, [0, 1007, 2007])] := rfl
theorem lv33_3 : lvT 33 3 = [3, 7, 8, 9] := rfl
theorem h34 : Has M 34 ((List ByteArray) × ByteArray × Unit) (Int) := ⟨fun _ => rfl, fun _ => rfl⟩
noncomputable def n34 (a0 : (List ByteArray)) (a1 : ByteArray) : Option (Int) := fnO M 34 (Int) (a0, a1, ())
theorem c34 : (∀ {ρ : Type} (ds : List D) (F : D → Option ρ), ((lastR M).o 34 ds).bind F = (da (α := (List ByteArray) × ByteArray × Unit) ds).bind (callN (fun x => n34 x.1 x.2.1) F)) ∧ ∀ aa, (envOf M aa).S 34 = some (.own ((lastR M).o 34)) := ⟨fun ds F => call_oK h34 ds F, fun _ => rfl⟩
theorem m34 : M.mode 34 = 0 := rfl
noncomputable def cd34 : Code := match Go.Proofs.Tryz.f34.body with | some c => c | none => .skip
theorem pl34 : plT 34 = [] := rfl
theorem lv34_2 : lvT 34 2 = [0, 1, 7, 8] := rfl
theorem h35 : Has M 35 (ByteArray × Unit) (Bool) := ⟨fun _ => rfl, fun _ => rfl⟩
noncomputable def n35 (a0 : ByteArray) : Option (Bool) := fnO M 35 (Bool) (a0, ())
theorem c35 : (∀ {ρ : Type} (ds : List D) (F : D → Option ρ), ((lastR M).o 35 ds).bind F = (da (α := ByteArray × Unit) ds).bind (callN (fun x => n35 x.1) F)) ∧ ∀ aa, (envOf M aa).S 35 = some (.own ((lastR M).o 35)) := ⟨fun ds F => call_oK h35 ds F, fun _ => rfl⟩
theorem m35 : M.mode 35 = 0 := rfl
noncomputable def cd35 : Code := match Go.Proofs.Tryz.f35.body with | some c => c | none => .skip
theorem pl35 : plT 35 = [] := rfl
theorem lv35_4 : lvT 35 4 = [0, 3] := rfl
theorem h36 : Has M 36 (ByteArray × Unit) ((List ByteArray) × Bool) := ⟨fun _ => rfl, fun _ => rfl⟩
noncomputable def n36 (a0 : ByteArray) : Option ((List ByteArray) × Bool) := fnO M 36 ((List ByteArray) × Bool) (a0, ())
theorem c36 : (∀ {ρ : Type} (ds : List D) (F : D → Option ρ), ((lastR M).o 36 ds).bind F = (da (α := ByteArray × Unit) ds).bind (callN (fun x => n36 x.1) F)) ∧ ∀ aa, (envOf M aa).S 36 = some (.own ((lastR M).o 36)) := ⟨fun ds F => call_oK h36 ds F, fun _ => rfl⟩
theorem m36 : M.mode 36 = 0 := rfl
noncomputable def cd36 : Code := match Go.Proofs.Tryz.f36.body with | some c => c | none => .skip
theorem pl36 : plT 36 = [] := rfl
theorem h37 : Has M 37 ((Pt L2In) × Unit) ((TreeMod) × (Pt L2In)) := ⟨fun _ => rfl, fun _ => rfl⟩
noncomputable def n37 (a0 : (Pt L2In)) : Option ((TreeMod) × (Pt L2In)) := fnI M 37 ((TreeMod)) (a0, ())
theorem c37 : (∀ {ρ : Type} (x : D) (ds : List D) (F : D × D → Option ρ), ((lastR M).i 37 x ds).bind F = (da (α := (Pt L2In) × Unit) (x :: ds)).bind (callI (fun x => n37 x.1) F)) ∧ ∀ aa, (envOf M aa).S 37 = some (.box ((lastR M).i 37)) := ⟨fun x ds F => call_iK h37 x ds F, fun _ => rfl⟩
theorem m37 : M.mode 37 = 5 := rfl
noncomputable def cd37 : Code := match Go.Proofs.Tryz.f37.body with | some c => c | none => .skip
theorem pl37 : plT 37 = [(10, [0, 6, 7, 1006, 1007])] := rfl
theorem lv37_2 : lvT 37 2 = [0, 2, 3] := rfl
theorem h38 : Has M 38 (TreeMod × Unit) (Bool) := ⟨fun _ => rfl, fun _ => rfl⟩
noncomputable def n38 (a0 : TreeMod) : Option (Bool) := fnO M 38 (Bool) (a0, ())
theorem c38 : (∀ {ρ : Type} (ds : List D) (F : D → Option ρ), ((lastR M).o 38 ds).bind F = (da (α := TreeMod × Unit) ds).bind (callN (fun x => n38 x.1) F)) ∧ ∀ aa, (envOf M aa).S 38 = some (.own ((lastR M).o 38)) := ⟨fun ds F => call_oK h38 ds F, fun _ => rfl⟩
theorem m38 : M.mode 38 = 0 := rfl
noncomputable def cd38 : Code := match Go.Proofs.Tryz.f38.body with | some c => c | none => .skip
theorem pl38 : plT 38 = [] := rfl
theorem lv38_5 : lvT 38 5 = [1, 3, 4] := rfl
theorem h42 : Has M 42 (Int × Unit) (ByteArray) := ⟨fun _ => rfl, fun _ => rfl⟩
noncomputable def n42 (a0 : Int) : Option (ByteArray) := fnO M 42 (ByteArray) (a0, ())
theorem c42 : (∀ {ρ : Type} (ds : List D) (F : D → Option ρ), ((lastR M).o 42 ds).bind F = (da (α := Int × Unit) ds).bind (callN (fun x => n42 x.1) F)) ∧ ∀ aa, (envOf M aa).S 42 = some (.own ((lastR M).o 42)) := ⟨fun ds F => call_oK h42 ds F, fun _ => rfl⟩
theorem m42 : M.mode 42 = 0 := rfl
noncomputable def cd42 : Code := match Go.Proofs.Tryz.f42.body with | some c => c | none => .skip
theorem pl42 : plT 42 = [] := rfl
theorem h43 : Has M 43 (ByteArray × Unit) (TreeMod × Int) := ⟨fun _ => rfl, fun _ => rfl⟩
noncomputable def n43 (a0 : ByteArray) : Option (TreeMod × Int) := fnO M 43 (TreeMod × Int) (a0, ())
theorem c43 : (∀ {ρ : Type} (ds : List D) (F : D → Option ρ), ((lastR M).o 43 ds).bind F = (da (α := ByteArray × Unit) ds).bind (callN (fun x => n43 x.1) F)) ∧ ∀ aa, (envOf M aa).S 43 = some (.own ((lastR M).o 43)) := ⟨fun ds F => call_oK h43 ds F, fun _ => rfl⟩
theorem m43 : M.mode 43 = 0 := rfl
noncomputable def cd43 : Code := match Go.Proofs.Tryz.f43.body with | some c => c | none => .skip
theorem pl43 : plT 43 = [] := rfl
theorem h44 : Has M 44 (ByteArray × Unit) (Bool) := ⟨fun _ => rfl, fun _ => rfl⟩
noncomputable def n44 (a0 : ByteArray) : Option (Bool) := fnO M 44 (Bool) (a0, ())
theorem c44 : (∀ {ρ : Type} (ds : List D) (F : D → Option ρ), ((lastR M).o 44 ds).bind F = (da (α := ByteArray × Unit) ds).bind (callN (fun x => n44 x.1) F)) ∧ ∀ aa, (envOf M aa).S 44 = some (.own ((lastR M).o 44)) := ⟨fun ds F => call_oK h44 ds F, fun _ => rfl⟩
theorem m44 : M.mode 44 = 0 := rfl
noncomputable def cd44 : Code := match Go.Proofs.Tryz.f44.body with | some c => c | none => .skip
theorem pl44 : plT 44 = [] := rfl
theorem lv44_2 : lvT 44 2 = [0, 5, 6] := rfl
theorem h50 : Has M 50 (ByteArray × Unit) (Bool) := ⟨fun _ => rfl, fun _ => rfl⟩
noncomputable def n50 (a0 : ByteArray) : Option (Bool) := fnO M 50 (Bool) (a0, ())
theorem c50 : (∀ {ρ : Type} (ds : List D) (F : D → Option ρ), ((lastR M).o 50 ds).bind F = (da (α := ByteArray × Unit) ds).bind (callN (fun x => n50 x.1) F)) ∧ ∀ aa, (envOf M aa).S 50 = some (.own ((lastR M).o 50)) := ⟨fun ds F => call_oK h50 ds F, fun _ => rfl⟩
theorem m50 : M.mode 50 = 0 := rfl
noncomputable def cd50 : Code := match Go.Proofs.Tryz.f50.body with | some c => c | none => .skip
theorem pl50 : plT 50 = [] := rfl
theorem lv50_3 : lvT 50 3 = [0, 3, 4] := rfl
theorem h51 : Has M 51 (U8 × Unit) (Bool) := ⟨fun _ => rfl, fun _ => rfl⟩
noncomputable def n51 (a0 : U8) : Option (Bool) := fnO M 51 (Bool) (a0, ())
theorem c51 : (∀ {ρ : Type} (ds : List D) (F : D → Option ρ), ((lastR M).o 51 ds).bind F = (da (α := U8 × Unit) ds).bind (callN (fun x => n51 x.1) F)) ∧ ∀ aa, (envOf M aa).S 51 = some (.own ((lastR M).o 51)) := ⟨fun ds F => call_oK h51 ds F, fun _ => rfl⟩
theorem m51 : M.mode 51 = 0 := rfl
noncomputable def cd51 : Code := match Go.Proofs.Tryz.f51.body with | some c => c | none => .skip
theorem pl51 : plT 51 = [] := rfl
theorem h52 : Has M 52 (U8 × Unit) (Bool) := ⟨fun _ => rfl, fun _ => rfl⟩
noncomputable def n52 (a0 : U8) : Option (Bool) := fnO M 52 (Bool) (a0, ())
theorem c52 : (∀ {ρ : Type} (ds : List D) (F : D → Option ρ), ((lastR M).o 52 ds).bind F = (da (α := U8 × Unit) ds).bind (callN (fun x => n52 x.1) F)) ∧ ∀ aa, (envOf M aa).S 52 = some (.own ((lastR M).o 52)) := ⟨fun ds F => call_oK h52 ds F, fun _ => rfl⟩
theorem m52 : M.mode 52 = 0 := rfl
noncomputable def cd52 : Code := match Go.Proofs.Tryz.f52.body with | some c => c | none => .skip
theorem pl52 : plT 52 = [] := rfl
theorem h53 : Has M 53 ((Pt L2In) × ByteArray × Unit) ((Unit) × (Pt L2In)) := ⟨fun _ => rfl, fun _ => rfl⟩
noncomputable def n53 (a0 : (Pt L2In)) (a1 : ByteArray) : Option ((Unit) × (Pt L2In)) := fnI M 53 ((Unit)) (a0, a1, ())
theorem c53 : (∀ {ρ : Type} (x : D) (ds : List D) (F : D × D → Option ρ), ((lastR M).i 53 x ds).bind F = (da (α := (Pt L2In) × ByteArray × Unit) (x :: ds)).bind (callI (fun x => n53 x.1 x.2.1) F)) ∧ ∀ aa, (envOf M aa).S 53 = some (.box ((lastR M).i 53)) := ⟨fun x ds F => call_iK h53 x ds F, fun _ => rfl⟩
theorem m53 : M.mode 53 = 5 := rfl
noncomputable def cd53 : Code := match Go.Proofs.Tryz.f53.body with | some c => c | none => .skip
theorem pl53 : plT 53 = [] := rfl
theorem h54 : Has M 54 ((Pt L2In) × Unit) (ByteArray) := ⟨fun _ => rfl, fun _ => rfl⟩
noncomputable def n54 (a0 : (Pt L2In)) : Option (ByteArray) := fnO M 54 (ByteArray) (a0, ())
theorem c54 : (∀ {ρ : Type} (ds : List D) (F : D → Option ρ), ((lastR M).o 54 ds).bind F = (da (α := (Pt L2In) × Unit) ds).bind (callN (fun x => n54 x.1) F)) ∧ ∀ aa, (envOf M aa).S 54 = some (.own ((lastR M).o 54)) := ⟨fun ds F => call_oK h54 ds F, fun _ => rfl⟩
theorem m54 : M.mode 54 = 0 := rfl
noncomputable def cd54 : Code := match Go.Proofs.Tryz.f54.body with | some c => c | none => .skip
theorem pl54 : plT 54 = [] := rfl
theorem h55 : Has M 55 ((Pt L2In) × Unit) (((List ByteArray)) × (Pt L2In)) := ⟨fun _ => rfl, fun _ => rfl⟩
noncomputable def n55 (a0 : (Pt L2In)) : Option (((List ByteArray)) × (Pt L2In)) := fnI M 55 (((List ByteArray))) (a0, ())
theorem c55 : (∀ {ρ : Type} (x : D) (ds : List D) (F : D × D → Option ρ), ((lastR M).i 55 x ds).bind F = (da (α := (Pt L2In) × Unit) (x :: ds)).bind (callI (fun x => n55 x.1) F)) ∧ ∀ aa, (envOf M aa).S 55 = some (.box ((lastR M).i 55)) := ⟨fun x ds F => call_iK h55 x ds F, fun _ => rfl⟩
theorem m55 : M.mode 55 = 5 := rfl
noncomputable def cd55 : Code := match Go.Proofs.Tryz.f55.body with | some c => c | none => .skip
theorem pl55 : plT 55 = [] := rfl
theorem lv55_2 : lvT 55 2 = [0, 3] := rfl
theorem h56 : Has M 56 ((Pt L2In) × Bool × Unit) ((TreeFun) × (Pt L2In)) := ⟨fun _ => rfl, fun _ => rfl⟩
noncomputable def n56 (a0 : (Pt L2In)) (a1 : Bool) : Option ((TreeFun) × (Pt L2In)) := fnI M 56 ((TreeFun)) (a0, a1, ())
theorem c56 : (∀ {ρ : Type} (x : D) (ds : List D) (F : D × D → Option ρ), ((lastR M).i 56 x ds).bind F = (da (α := (Pt L2In) × Bool × Unit) (x :: ds)).bind (callI (fun x => n56 x.1 x.2.1) F)) ∧ ∀ aa, (envOf M aa).S 56 = some (.box ((lastR M).i 56)) := ⟨fun x ds F => call_iK h56 x ds F, fun _ => rfl⟩
theorem m56 : M.mode 56 = 5 := rfl
noncomputable def cd56 : Code := match Go.Proofs.Tryz.f56.body with | some c => c | none => .skip
theorem pl56 : plT 56 = [] := rfl
theorem lv56_3 : lvT 56 3 = [0, 4, 5] := rfl
theorem h57 : Has M 57 ((Pt L2In) × Unit) ((TreeExpr) × (Pt L2In)) := ⟨fun _ => rfl, fun _ => rfl⟩
noncomputable def n57 (a0 : (Pt L2In)) : Option ((TreeExpr) × (Pt L2In)) := fnI M 57 ((TreeExpr)) (a0, ())
theorem c57 : (∀ {ρ : Type} (x : D) (ds : List D) (F : D × D → Option ρ), ((lastR M).i 57 x ds).bind F = (da (α := (Pt L2In) × Unit) (x :: ds)).bind (callI (fun x => n57 x.1) F)) ∧ ∀ aa, (envOf M aa).S 57 = some (.box ((lastR M).i 57)) := ⟨fun x ds F => call_iK h57 x ds F, fun _ => rfl⟩
theorem m57 : M.mode 57 = 5 := rfl
noncomputable def cd57 : Code := match Go.Proofs.Tryz.f57.body with | some c => c | none => .skip
theorem pl57 : plT 57 = [(6, [0, 4, 5, 1004, 1005])] := rfl
theorem lv57_5 : lvT 57 5 = [0, 2, 3] := rfl
theorem h58 : Has M 58 ((List ByteArray) × Unit) (Bool) := ⟨fun _ => rfl, fun _ => rfl⟩
noncomputable def n58 (a0 : (List ByteArray)) : Option (Bool) := fnO M 58 (Bool) (a0, ())
theorem c58 : (∀ {ρ : Type} (ds : List D) (F : D → Option ρ), ((lastR M).o 58 ds).bind F = (da (α := (List ByteArray) × Unit) ds).bind (callN (fun x => n58 x.1) F)) ∧ ∀ aa, (envOf M aa).S 58 = some (.own ((lastR M).o 58)) := ⟨fun ds F => call_oK h58 ds F, fun _ => rfl⟩
theorem m58 : M.mode 58 = 0 := rfl
noncomputable def cd58 : Code := match Go.Proofs.Tryz.f58.body with | some c => c | none => .skip
theorem pl58 : plT 58 = [] := rfl
theorem lv58_2 : lvT 58 2 = [0, 3] := rfl
theorem lv58_7 : lvT 58 7 = [0, 3, 4] := rfl
theorem h59 : Has M 59 (TreeMod × Unit) (Bool) := ⟨fun _ => rfl, fun _ => rfl⟩
noncomputable def n59 (a0 : TreeMod) : Option (Bool) := fnO M 59 (Bool) (a0, ())
theorem c59 : (∀ {ρ : Type} (ds : List D) (F : D → Option ρ), ((lastR M).o 59 ds).bind F = (da (α := TreeMod × Unit) ds).bind (callN (fun x => n59 x.1) F)) ∧ ∀ aa, (envOf M aa).S 59 = some (.own ((lastR M).o 59)) := ⟨fun ds F => call_oK h59 ds F, fun _ => rfl⟩
theorem m59 : M.mode 59 = 0 := rfl
noncomputable def cd59 : Code := match Go.Proofs.Tryz.f59.body with | some c => c | none => .skip
theorem pl59 : plT 59 = [] := rfl
theorem lv59_3 : lvT 59 3 = [1, 3, 4] := rfl
theorem h60 : Has M 60 (TreeFun × Unit) (Bool) := ⟨fun _ => rfl, fun _ => rfl⟩
noncomputable def n60 (a0 : TreeFun) : Option (Bool) := fnO M 60 (Bool) (a0, ())
theorem c60 : (∀ {ρ : Type} (ds : List D) (F : D → Option ρ), ((lastR M).o 60 ds).bind F = (da (α := TreeFun × Unit) ds).bind (callN (fun x => n60 x.1) F)) ∧ ∀ aa, (envOf M aa).S 60 = some (.own ((lastR M).o 60)) := ⟨fun ds F => call_oK h60 ds F, fun _ => rfl⟩
theorem m60 : M.mode 60 = 0 := rfl
noncomputable def cd60 : Code := match Go.Proofs.Tryz.f60.body with | some c => c | none => .skip
theorem pl60 : plT 60 = [] := rfl
theorem lv60_4 : lvT 60 4 = [1, 3] := rfl
theorem lv60_9 : lvT 60 9 = [1, 3, 4] := rfl
theorem h61 : Has M 61 (TreeExpr × Unit) (Bool) := ⟨fun _ => rfl, fun _ => rfl⟩
noncomputable def n61 (a0 : TreeExpr) : Option (Bool) := fnO M 61 (Bool) (a0, ())
theorem c61 : (∀ {ρ : Type} (ds : List D) (F : D → Option ρ), ((lastR M).o 61 ds).bind F = (da (α := TreeExpr × Unit) ds).bind (callN (fun x => n61 x.1) F)) ∧ ∀ aa, (envOf M aa).S 61 = some (.own ((lastR M).o 61)) := ⟨fun ds F => call_oK h61 ds F, fun _ => rfl⟩
theorem m61 : M.mode 61 = 0 := rfl
noncomputable def cd61 : Code := match Go.Proofs.Tryz.f61.body with | some c => c | none => .skip
theorem pl61 : plT 61 = [] := rfl
theorem lv61_4 : lvT 61 4 = [1, 3] := rfl
theorem h65 : Has M 65 (ByteArray × Unit) ((List ByteArray) × Bool) := ⟨fun _ => rfl, fun _ => rfl⟩
noncomputable def n65 (a0 : ByteArray) : Option ((List ByteArray) × Bool) := fnO M 65 ((List ByteArray) × Bool) (a0, ())
theorem c65 : (∀ {ρ : Type} (ds : List D) (F : D → Option ρ), ((lastR M).o 65 ds).bind F = (da (α := ByteArray × Unit) ds).bind (callN (fun x => n65 x.1) F)) ∧ ∀ aa, (envOf M aa).S 65 = some (.own ((lastR M).o 65)) := ⟨fun ds F => call_oK h65 ds F, fun _ => rfl⟩
theorem m65 : M.mode 65 = 0 := rfl
noncomputable def cd65 : Code := match Go.Proofs.Tryz.f65.body with | some c => c | none => .skip
theorem pl65 : plT 65 = [] := rfl
theorem h66 : Has M 66 ((List ByteArray) × Unit) (TreeMod × Bool) := ⟨fun _ => rfl, fun _ => rfl⟩
noncomputable def n66 (a0 : (List ByteArray)) : Option (TreeMod × Bool) := fnO M 66 (TreeMod × Bool) (a0, ())
theorem c66 : (∀ {ρ : Type} (ds : List D) (F : D → Option ρ), ((lastR M).o 66 ds).bind F = (da (α := (List ByteArray) × Unit) ds).bind (callN (fun x => n66 x.1) F)) ∧ ∀ aa, (envOf M aa).S 66 = some (.eat fun x ds => (lastR M).o 66 (x :: ds)) := ⟨fun ds F => call_oK h66 ds F, fun _ => rfl⟩
theorem m66 : M.mode 66 = 7 := rfl
theorem pl66 : plT 66 = [(2, [9])] := rfl
theorem h67 : Has M 67 (TreeMod × Unit) (Bool) := ⟨fun _ => rfl, fun _ => rfl⟩
noncomputable def n67 (a0 : TreeMod) : Option (Bool) := fnO M 67 (Bool) (a0, ())
theorem c67 : (∀ {ρ : Type} (ds : List D) (F : D → Option ρ), ((lastR M).o 67 ds).bind F = (da (α := TreeMod × Unit) ds).bind (callN (fun x => n67 x.1) F)) ∧ ∀ aa, (envOf M aa).S 67 = some (.own ((lastR M).o 67)) := ⟨fun ds F => call_oK h67 ds F, fun _ => rfl⟩
theorem m67 : M.mode 67 = 0 := rfl
noncomputable def cd67 : Code := match Go.Proofs.Tryz.f67.body with | some c => c | none => .skip
theorem pl67 : plT 67 = [] := rfl
theorem lv67_5 : lvT 67 5 = [1, 3, 4, 35, 36, 37] := rfl
theorem lv67_12 : lvT 67 12 = [3, 4, 70, 71, 72] := rfl
theorem h68 : Has M 68 (Int × Int × Int × Unit) (Bool) := ⟨fun _ => rfl, fun _ => rfl⟩
noncomputable def n68 (a0 : Int) (a1 : Int) (a2 : Int) : Option (Bool) := fnO M 68 (Bool) (a0, a1, a2, ())
theorem c68 : (∀ {ρ : Type} (ds : List D) (F : D → Option ρ), ((lastR M).o 68 ds).bind F = (da (α := Int × Int × Int × Unit) ds).bind (callN (fun x => n68 x.1 x.2.1 x.2.2.1) F)) ∧ ∀ aa, (envOf M aa).S 68 = some (.own ((lastR M).o 68)) := ⟨fun ds F => call_oK h68 ds F, fun _ => rfl⟩
theorem m68 : M.mode 68 = 0 := rfl
noncomputable def cd68 : Code := match Go.Proofs.Tryz.f68.body with | some c => c | none => .skip
theorem pl68 : plT 68 = [] := rfl
theorem h69 : Has M 69 (ByteArray × Unit) (Bool) := ⟨fun _ => rfl, fun _ => rfl⟩
noncomputable def n69 (a0 : ByteArray) : Option (Bool) := fnO M 69 (Bool) (a0, ())
theorem c69 : (∀ {ρ : Type} (ds : List D) (F : D → Option ρ), ((lastR M).o 69 ds).bind F = (da (α := ByteArray × Unit) ds).bind (callN (fun x => n69 x.1) F)) ∧ ∀ aa, (envOf M aa).S 69 = some (.own ((lastR M).o 69)) := ⟨fun ds F => call_oK h69 ds F, fun _ => rfl⟩
theorem m69 : M.mode 69 = 0 := rfl
noncomputable def cd69 : Code := match Go.Proofs.Tryz.f69.body with | some c => c | none => .skip
theorem pl69 : plT 69 = [] := rfl
theorem h76 : Has M 76 ((Pt L2In) × Unit) ((ByteArray) × (Pt L2In)) := ⟨fun _ => rfl, fun _ => rfl⟩
noncomputable def n76 (a0 : (Pt L2In)) : Option ((ByteArray) × (Pt L2In)) := fnI M 76 ((ByteArray)) (a0, ())
theorem c76 : (∀ {ρ : Type} (x : D) (ds : List D) (F : D × D → Option ρ), ((lastR M).i 76 x ds).bind F = (da (α := (Pt L2In) × Unit) (x :: ds)).bind (callI (fun x => n76 x.1) F)) ∧ ∀ aa, (envOf M aa).S 76 = some (.box ((lastR M).i 76)) := ⟨fun x ds F => call_iK h76 x ds F, fun _ => rfl⟩
theorem m76 : M.mode 76 = 5 := rfl
noncomputable def cd76 : Code := match Go.Proofs.Tryz.f76.body with | some c => c | none => .skip
theorem pl76 : plT 76 = [] := rfl
theorem h77 : Has M 77 ((Pt L2In) × Unit) ((Int) × (Pt L2In)) := ⟨fun _ => rfl, fun _ => rfl⟩
noncomputable def n77 (a0 : (Pt L2In)) : Option ((Int) × (Pt L2In)) := fnI M 77 ((Int)) (a0, ())
theorem c77 : (∀ {ρ : Type} (x : D) (ds : List D) (F : D × D → Option ρ), ((lastR M).i 77 x ds).bind F = (da (α := (Pt L2In) × Unit) (x :: ds)).bind (callI (fun x => n77 x.1) F)) ∧ ∀ aa, (envOf M aa).S 77 = some (.box ((lastR M).i 77)) := ⟨fun x ds F => call_iK h77 x ds F, fun _ => rfl⟩
theorem m77 : M.mode 77 = 5 := rfl
noncomputable def cd77 : Code := match Go.Proofs.Tryz.f77.body with | some c => c | none => .skip
theorem pl77 : plT 77 = [] := rfl
theorem lv77_4 : lvT 77 4 = [0, 3, 4] := rfl
theorem h78 : Has M 78 ((Pt L2In) × Unit) ((TreeExpr) × (Pt L2In)) := ⟨fun _ => rfl, fun _ => rfl⟩
noncomputable def n78 (a0 : (Pt L2In)) : Option ((TreeExpr) × (Pt L2In)) := fnI M 78 ((TreeExpr)) (a0, ())
theorem c78 : (∀ {ρ : Type} (x : D) (ds : List D) (F : D × D → Option ρ), ((lastR M).i 78 x ds).bind F = (da (α := (Pt L2In) × Unit) (x :: ds)).bind (callI (fun x => n78 x.1) F)) ∧ ∀ aa, (envOf M aa).S 78 = some (.box ((lastR M).i 78)) := ⟨fun x ds F => call_iK h78 x ds F, fun _ => rfl⟩
theorem m78 : M.mode 78 = 5 := rfl
noncomputable def cd78 : Code := match Go.Proofs.Tryz.f78.body with | some c => c | none => .skip
theorem pl78 : plT 78 = [] := rfl
theorem h79 : Has M 79 ((Pt L2In) × Unit) ((TreeExpr) × (Pt L2In)) := ⟨fun _ => rfl, fun _ => rfl⟩
noncomputable def n79 (a0 : (Pt L2In)) : Option ((TreeExpr) × (Pt L2In)) := fnI M 79 ((TreeExpr)) (a0, ())
theorem c79 : (∀ {ρ : Type} (x : D) (ds : List D) (F : D × D → Option ρ), ((lastR M).i 79 x ds).bind F = (da (α := (Pt L2In) × Unit) (x :: ds)).bind (callI (fun x => n79 x.1) F)) ∧ ∀ aa, (envOf M aa).S 79 = some (.box ((lastR M).i 79)) := ⟨fun x ds F => call_iK h79 x ds F, fun _ => rfl⟩
theorem m79 : M.mode 79 = 5 := rfl
noncomputable def cd79 : Code := match Go.Proofs.Tryz.f79.body with | some c => c | none => .skip
theorem pl79 : plT 79 = [] := rfl
theorem h80 : Has M 80 (TreeExpr × Unit) (Int × Int) := ⟨fun _ => rfl, fun _ => rfl⟩
noncomputable def n80 (a0 : TreeExpr) : Option (Int × Int) := fnO M 80 (Int × Int) (a0, ())
theorem c80 : (∀ {ρ : Type} (ds : List D) (F : D → Option ρ), ((lastR M).o 80 ds).bind F = (da (α := TreeExpr × Unit) ds).bind (callN (fun x => n80 x.1) F)) ∧ ∀ aa, (envOf M aa).S 80 = some (.own ((lastR M).o 80)) := ⟨fun ds F => call_oK h80 ds F, fun _ => rfl⟩
theorem m80 : M.mode 80 = 0 := rfl
noncomputable def cd80 : Code := match Go.Proofs.Tryz.f80.body with | some c => c | none => .skip
theorem pl80 : plT 80 = [] := rfl
theorem lv80_4 : lvT 80 4 = [1, 4, 5, 6] := rfl
theorem h81 : Has M 81 (TreeExpr × Unit) (Bool) := ⟨fun _ => rfl, fun _ => rfl⟩
noncomputable def n81 (a0 : TreeExpr) : Option (Bool) := fnO M 81 (Bool) (a0, ())
theorem c81 : (∀ {ρ : Type} (ds : List D) (F : D → Option ρ), ((lastR M).o 81 ds).bind F = (da (α := TreeExpr × Unit) ds).bind (callN (fun x => n81 x.1) F)) ∧ ∀ aa, (envOf M aa).S 81 = some (.own ((lastR M).o 81)) := ⟨fun ds F => call_oK h81 ds F, fun _ => rfl⟩
theorem m81 : M.mode 81 = 0 := rfl
noncomputable def cd81 : Code := match Go.Proofs.Tryz.f81.body with | some c => c | none => .skip
theorem pl81 : plT 81 = [] := rfl
theorem h82 : Has M 82 (U8 × Unit) (Bool) := ⟨fun _ => rfl, fun _ => rfl⟩
noncomputable def n82 (a0 : U8) : Option (Bool) := fnO M 82 (Bool) (a0, ())
theorem c82 : (∀ {ρ : Type} (ds : List D) (F : D → Option ρ), ((lastR M).o 82 ds).bind F = (da (α := U8 × Unit) ds).bind (callN (fun x => n82 x.1) F)) ∧ ∀ aa, (envOf M aa).S 82 = some (.own ((lastR M).o 82)) := ⟨fun ds F => call_oK h82 ds F, fun _ => rfl⟩
theorem m82 : M.mode 82 = 0 := rfl
noncomputable def cd82 : Code := match Go.Proofs.Tryz.f82.body with | some c => c | none => .skip
theorem pl82 : plT 82 = [] := rfl
theorem h83 : Has M 83 (U8 × Unit) (Bool) := ⟨fun _ => rfl, fun _ => rfl⟩
noncomputable def n83 (a0 : U8) : Option (Bool) := fnO M 83 (Bool) (a0, ())
theorem c83 : (∀ {ρ : Type} (ds : List D) (F : D → Option ρ), ((lastR M).o 83 ds).bind F = (da (α := U8 × Unit) ds).bind (callN (fun x => n83 x.1) F)) ∧ ∀ aa, (envOf M aa).S 83 = some (.own ((lastR M).o 83)) := ⟨fun ds F => call_oK h83 ds F, fun _ => rfl⟩
theorem m83 : M.mode 83 = 0 := rfl
noncomputable def cd83 : Code := match Go.Proofs.Tryz.f83.body with | some c => c | none => .skip
theorem pl83 : plT 83 = [] := rfl
theorem h85 : Has M 85 ((Pt Reader) × Unit) ((Po (TreeMod)) × (Pt Reader)) := ⟨fun _ => rfl, fun _ => rfl⟩
noncomputable def n85 (a0 : (Pt Reader)) : Option ((Po (TreeMod)) × (Pt Reader)) := fnI M 85 (Po (TreeMod)) (a0, ())
theorem c85 : (∀ {ρ : Type} (x : D) (ds : List D) (F : D × D → Option ρ), ((lastR M).i 85 x ds).bind F = (da (α := (Pt Reader) × Unit) (x :: ds)).bind (callI (fun x => n85 x.1) F)) ∧ ∀ aa, (envOf M aa).S 85 = some (.pbx ((lastR M).i 85)) := ⟨fun x ds F => call_iK h85 x ds F, fun _ => rfl⟩
theorem m85 : M.mode 85 = 6 := rfl
noncomputable def cd85 : Code := match Go.Proofs.Tryz.f85.body with | some c => c | none => .skip
theorem pl85 : plT 85 = [(3, [9, 4, 5, 1004, 1005]), (5, [9, 4, 5, 1004, 1005]), (7, [9, 4, 5, 1004, 1005]), (9, [9, 4, 5, 1004, 1005]), (11, [9, 4, 5, 1004, 1005]), (12, [9]), (14, [8])] := rfl
theorem lv85_3 : lvT 85 3 = [0, 2, 3] := rfl
theorem lv85_4 : lvT 85 4 = [0, 2, 3] := rfl
theorem h86 : Has M 86 ((List ByteArray) × Unit) (Bool) := ⟨fun _ => rfl, fun _ => rfl⟩
noncomputable def n86 (a0 : (List ByteArray)) : Option (Bool) := fnO M 86 (Bool) (a0, ())
theorem c86 : (∀ {ρ : Type} (ds : List D) (F : D → Option ρ), ((lastR M).o 86 ds).bind F = (da (α := (List ByteArray) × Unit) ds).bind (callN (fun x => n86 x.1) F)) ∧ ∀ aa, (envOf M aa).S 86 = some (.own ((lastR M).o 86)) := ⟨fun ds F => call_oK h86 ds F, fun _ => rfl⟩
theorem m86 : M.mode 86 = 0 := rfl
noncomputable def cd86 : Code := match Go.Proofs.Tryz.f86.body with | some c => c | none => .skip
theorem pl86 : plT 86 = [] := rfl
theorem lv86_2 : lvT 86 2 = [0, 5, 6, 7] := rfl
theorem h87 : Has M 87 ((List TreeArg) × Unit) ((List ByteArray)) := ⟨fun _ => rfl, fun _ => rfl⟩
noncomputable def n87 (a0 : (List TreeArg)) : Option ((List ByteArray)) := fnO M 87 ((List ByteArray)) (a0, ())
theorem c87 : (∀ {ρ : Type} (ds : List D) (F : D → Option ρ), ((lastR M).o 87 ds).bind F = (da (α := (List TreeArg) × Unit) ds).bind (callN (fun x => n87 x.1) F)) ∧ ∀ aa, (envOf M aa).S 87 = some (.shared ((lastR M).o 87)) := ⟨fun ds F => call_oK h87 ds F, fun _ => rfl⟩
theorem m87 : M.mode 87 = 1 := rfl
noncomputable def cd87 : Code := match Go.Proofs.Tryz.f87.body with | some c => c | none => .skip
theorem pl87 : plT 87 = [] := rfl
theorem lv87_3 : lvT 87 3 = [3, 7, 8, 9] := rfl
theorem h88 : Has M 88 (Int × Unit) (Bool) := ⟨fun _ => rfl, fun _ => rfl⟩
noncomputable def n88 (a0 : Int) : Option (Bool) := fnO M 88 (Bool) (a0, ())
theorem c88 : (∀ {ρ : Type} (ds : List D) (F : D → Option ρ), ((lastR M).o 88 ds).bind F = (da (α := Int × Unit) ds).bind (callN (fun x => n88 x.1) F)) ∧ ∀ aa, (envOf M aa).S 88 = some (.own ((lastR M).o 88)) := ⟨fun ds F => call_oK h88 ds F, fun _ => rfl⟩
theorem m88 : M.mode 88 = 0 := rfl
noncomputable def cd88 : Code := match Go.Proofs.Tryz.f88.body with | some c => c | none => .skip
theorem pl88 : plT 88 = [] := rfl
theorem h89 : Has M 89 ((List TreeArg) × Fv × Unit) (Bool) := ⟨fun _ => rfl, fun _ => rfl⟩
noncomputable def n89 (a0 : (List TreeArg)) (a1 : Fv) : Option (Bool) := fnO M 89 (Bool) (a0, a1, ())
theorem c89 : (∀ {ρ : Type} (ds : List D) (F : D → Option ρ), ((lastR M).o 89 ds).bind F = (da (α := (List TreeArg) × Fv × Unit) ds).bind (callN (fun x => n89 x.1 x.2.1) F)) ∧ ∀ aa, (envOf M aa).S 89 = some (.own ((lastR M).o 89)) := ⟨fun ds F => call_oK h89 ds F, fun _ => rfl⟩
theorem m89 : M.mode 89 = 0 := rfl
noncomputable def cd89 : Code := match Go.Proofs.Tryz.f89.body with | some c => c | none => .skip
theorem pl89 : plT 89 = [] := rfl
theorem h90 : Has M 90 (TreeArg × Unit) (Bool) := ⟨fun _ => rfl, fun _ => rfl⟩
noncomputable def n90 (a0 : TreeArg) : Option (Bool) := fnO M 90 (Bool) (a0, ())
theorem c90 : (∀ {ρ : Type} (ds : List D) (F : D → Option ρ), ((lastR M).o 90 ds).bind F = (da (α := TreeArg × Unit) ds).bind (callN (fun x => n90 x.1) F)) ∧ ∀ aa, (envOf M aa).S 90 = some (.own ((lastR M).o 90)) := ⟨fun ds F => call_oK h90 ds F, fun _ => rfl⟩
theorem m90 : M.mode 90 = 0 := rfl
noncomputable def cd90 : Code := match Go.Proofs.Tryz.f90.body with | some c => c | none => .skip
theorem pl90 : plT 90 = [] := rfl
theorem h91 : Has M 91 (TreeMod × Unit) ((List TreeExpr)) := ⟨fun _ => rfl, fun _ => rfl⟩
noncomputable def n91 (a0 : TreeMod) : Option ((List TreeExpr)) := fnO M 91 ((List TreeExpr)) (a0, ())
theorem c91 : (∀ {ρ : Type} (ds : List D) (F : D → Option ρ), ((lastR M).o 91 ds).bind F = (da (α := TreeMod × Unit) ds).bind (callN (fun x => n91 x.1) F)) ∧ ∀ aa, (envOf M aa).S 91 = some (.shared ((lastR M).o 91)) := ⟨fun ds F => call_oK h91 ds F, fun _ => rfl⟩
theorem m91 : M.mode 91 = 1 := rfl
noncomputable def cd91 : Code := match Go.Proofs.Tryz.f91.body with | some c => c | none => .skip
theorem pl91 : plT 91 = [] := rfl
theorem lv91_3 : lvT 91 3 = [1, 3, 8, 9, 10] := rfl
theorem h92 : Has M 92 (TreeExpr × Unit) (Int × Int) := ⟨fun _ => rfl, fun _ => rfl⟩
noncomputable def n92 (a0 : TreeExpr) : Option (Int × Int) := fnO M 92 (Int × Int) (a0, ())
theorem c92 : (∀ {ρ : Type} (ds : List D) (F : D → Option ρ), ((lastR M).o 92 ds).bind F = (da (α := TreeExpr × Unit) ds).bind (callN (fun x => n92 x.1) F)) ∧ ∀ aa, (envOf M aa).S 92 = some (.own ((lastR M).o 92)) := ⟨fun ds F => call_oK h92 ds F, fun _ => rfl⟩
theorem m92 : M.mode 92 = 0 := rfl
noncomputable def cd92 : Code := match Go.Proofs.Tryz.f92.body with | some c => c | none => .skip
theorem pl92 : plT 92 = [] := rfl
theorem lv92_3 : lvT 92 3 = [4, 5, 11, 12, 13] := rfl
theorem h93 : Has M 93 (TreeExpr × Unit) (Bool) := ⟨fun _ => rfl, fun _ => rfl⟩
noncomputable def n93 (a0 : TreeExpr) : Option (Bool) := fnO M 93 (Bool) (a0, ())
theorem c93 : (∀ {ρ : Type} (ds : List D) (F : D → Option ρ), ((lastR M).o 93 ds).bind F = (da (α := TreeExpr × Unit) ds).bind (callN (fun x => n93 x.1) F)) ∧ ∀ aa, (envOf M aa).S 93 = some (.own ((lastR M).o 93)) := ⟨fun ds F => call_oK h93 ds F, fun _ => rfl⟩
theorem m93 : M.mode 93 = 0 := rfl
noncomputable def cd93 : Code := match Go.Proofs.Tryz.f93.body with | some c => c | none => .skip
theorem pl93 : plT 93 = [] := rfl
theorem h101 : Has M 101 (ByteArray × Unit) (Int × Bool) := ⟨fun _ => rfl, fun _ => rfl⟩
noncomputable def n101 (a0 : ByteArray) : Option (Int × Bool) := fnO M 101 (Int × Bool) (a0, ())
theorem c101 : (∀ {ρ : Type} (ds : List D) (F : D → Option ρ), ((lastR M).o 101 ds).bind F = (da (α := ByteArray × Unit) ds).bind (callN (fun x => n101 x.1) F)) ∧ ∀ aa, (envOf M aa).S 101 = some (.own ((lastR M).o 101)) := ⟨fun ds F => call_oK h101 ds F, fun _ => rfl⟩
theorem m101 : M.mode 101 = 0 := rfl
noncomputable def cd101 : Code := match Go.Proofs.Tryz.f101.body with | some c => c | none => .skip
theorem pl101 : plT 101 = [] := rfl
theorem h102 : Has M 102 (ByteArray × Unit) (T3 ByteArray ByteArray Bool) := ⟨fun _ => rfl, fun _ => rfl⟩
noncomputable def n102 (a0 : ByteArray) : Option (T3 ByteArray ByteArray Bool) := fnO M 102 (T3 ByteArray ByteArray Bool) (a0, ())
theorem c102 : (∀ {ρ : Type} (ds : List D) (F : D → Option ρ), ((lastR M).o 102 ds).bind F = (da (α := ByteArray × Unit) ds).bind (callN (fun x => n102 x.1) F)) ∧ ∀ aa, (envOf M aa).S 102 = some (.own ((lastR M).o 102)) := ⟨fun ds F => call_oK h102 ds F, fun _ => rfl⟩
theorem m102 : M.mode 102 = 0 := rfl
noncomputable def cd102 : Code := match Go.Proofs.Tryz.f102.body with | some c => c | none => .skip
theorem pl102 : plT 102 = [] := rfl
theorem h103 : Has M 103 (ByteArray × Unit) (Int) := ⟨fun _ => rfl, fun _ => rfl⟩
noncomputable def n103 (a0 : ByteArray) : Option (Int) := fnO M 103 (Int) (a0, ())
theorem c103 : (∀ {ρ : Type} (ds : List D) (F : D → Option ρ), ((lastR M).o 103 ds).bind F = (da (α := ByteArray × Unit) ds).bind (callN (fun x => n103 x.1) F)) ∧ ∀ aa, (envOf M aa).S 103 = some (.own ((lastR M).o 103)) := ⟨fun ds F => call_oK h103 ds F, fun _ => rfl⟩
theorem m103 : M.mode 103 = 0 := rfl
noncomputable def cd103 : Code := match Go.Proofs.Tryz.f103.body with | some c => c | none => .skip
theorem pl103 : plT 103 = [] := rfl
theorem lv103_3 : lvT 103 3 = [0, 3, 4] := rfl
theorem h104 : Has M 104 (TreeExpr × Bool × Bool × Bool × Unit) (Bool) := ⟨fun _ => rfl, fun _ => rfl⟩
noncomputable def n104 (a0 : TreeExpr) (a1 : Bool) (a2 : Bool) (a3 : Bool) : Option (Bool) := fnO M 104 (Bool) (a0, a1, a2, a3, ())
theorem c104 : (∀ {ρ : Type} (ds : List D) (F : D → Option ρ), ((lastR M).o 104 ds).bind F = (da (α := TreeExpr × Bool × Bool × Bool × Unit) ds).bind (callN (fun x => n104 x.1 x.2.1 x.2.2.1 x.2.2.2.1) F)) ∧ ∀ aa, (envOf M aa).S 104 = some (.own ((lastR M).o 104)) := ⟨fun ds F => call_oK h104 ds F, fun _ => rfl⟩
theorem m104 : M.mode 104 = 0 := rfl
noncomputable def cd104 : Code := match Go.Proofs.Tryz.f104.body with | some c => c | none => .skip
theorem pl104 : plT 104 = [] := rfl
theorem h105 : Has M 105 (ByteArray × Unit) (Int) := ⟨fun _ => rfl, fun _ => rfl⟩
noncomputable def n105 (a0 : ByteArray) : Option (Int) := fnO M 105 (Int) (a0, ())
theorem c105 : (∀ {ρ : Type} (ds : List D) (F : D → Option ρ), ((lastR M).o 105 ds).bind F = (da (α := ByteArray × Unit) ds).bind (callN (fun x => n105 x.1) F)) ∧ ∀ aa, (envOf M aa).S 105 = some (.own ((lastR M).o 105)) := ⟨fun ds F => call_oK h105 ds F, fun _ => rfl⟩
theorem m105 : M.mode 105 = 0 := rfl
noncomputable def cd105 : Code := match Go.Proofs.Tryz.f105.body with | some c => c | none => .skip
theorem pl105 : plT 105 = [] := rfl
theorem h106 : Has M 106 ((Pt Reader) × (List ByteArray) × Unit) ((Bool) × (Pt Reader)) := ⟨fun _ => rfl, fun _ => rfl⟩
noncomputable def n106 (a0 : (Pt Reader)) (a1 : (List ByteArray)) : Option ((Bool) × (Pt Reader)) := fnI M 106 ((Bool)) (a0, a1, ())
theorem c106 : (∀ {ρ : Type} (x : D) (ds : List D) (F : D × D → Option ρ), ((lastR M).i 106 x ds).bind F = (da (α := (Pt Reader) × (List ByteArray) × Unit) (x :: ds)).bind (callI (fun x => n106 x.1 x.2.1) F)) ∧ ∀ aa, (envOf M aa).S 106 = some (.box ((lastR M).i 106)) := ⟨fun x ds F => call_iK h106 x ds F, fun _ => rfl⟩
theorem m106 : M.mode 106 = 5 := rfl
noncomputable def cd106 : Code := match Go.Proofs.Tryz.f106.body with | some c => c | none => .skip
theorem pl106 : plT 106 = [] := rfl
theorem h107 : Has M 107 ((Pt Reader) × Unit) ((Po (ByteArray)) × (Pt Reader)) := ⟨fun _ => rfl, fun _ => rfl⟩
noncomputable def n107 (a0 : (Pt Reader)) : Option ((Po (ByteArray)) × (Pt Reader)) := fnI M 107 (Po (ByteArray)) (a0, ())
theorem c107 : (∀ {ρ : Type} (x : D) (ds : List D) (F : D × D → Option ρ), ((lastR M).i 107 x ds).bind F = (da (α := (Pt Reader) × Unit) (x :: ds)).bind (callI (fun x => n107 x.1) F)) ∧ ∀ aa, (envOf M aa).S 107 = some (.pbx ((lastR M).i 107)) := ⟨fun x ds F => call_iK h107 x ds F, fun _ => rfl⟩
theorem m107 : M.mode 107 = 6 := rfl
noncomputable def cd107 : Code := match Go.Proofs.Tryz.f107.body with | some c => c | none => .skip
theorem pl107 : plT 107 = [(1, [9]), (3, [8])] := rfl
theorem h108 : Has M 108 ((Pt Reader) × Bool × Unit) ((Po (TreeFun)) × (Pt Reader)) := ⟨fun _ => rfl, fun _ => rfl⟩
noncomputable def n108 (a0 : (Pt Reader)) (a1 : Bool) : Option ((Po (TreeFun)) × (Pt Reader)) := fnI M 108 (Po (TreeFun)) (a0, a1, ())
theorem c108 : (∀ {ρ : Type} (x : D) (ds : List D) (F : D × D → Option ρ), ((lastR M).i 108 x ds).bind F = (da (α := (Pt Reader) × Bool × Unit) (x :: ds)).bind (callI (fun x => n108 x.1 x.2.1) F)) ∧ ∀ aa, (envOf M aa).S 108 = some (.pbx ((lastR M).i 108)) := ⟨fun x ds F => call_iK h108 x ds F, fun _ => rfl⟩
theorem m108 : M.mode 108 = 6 := rfl
noncomputable def cd108 : Code := match Go.Proofs.Tryz.f108.body with | some c => c | none => .skip
theorem pl108 : plT 108 = [(1, [9]), (2, [9]), (4, [9]), (5, [9, 4, 6, 8, 1004, 1006, 1008]), (6, [9]), (7, [9]), (8, [9])] := rfl
theorem lv108_3 : lvT 108 3 = [0, 4, 5] := rfl
theorem h109 : Has M 109 ((Pt Reader) × Unit) ((Po (TreeExpr)) × (Pt Reader)) := ⟨fun _ => rfl, fun _ => rfl⟩
noncomputable def n109 (a0 : (Pt Reader)) : Option ((Po (TreeExpr)) × (Pt Reader)) := fnI M 109 (Po (TreeExpr)) (a0, ())
theorem c109 : (∀ {ρ : Type} (x : D) (ds : List D) (F : D × D → Option ρ), ((lastR M).i 109 x ds).bind F = (da (α := (Pt Reader) × Unit) (x :: ds)).bind (callI (fun x => n109 x.1) F)) ∧ ∀ aa, (envOf M aa).S 109 = some (.pbx ((lastR M).i 109)) := ⟨fun x ds F => call_iK h109 x ds F, fun _ => rfl⟩
theorem m109 : M.mode 109 = 6 := rfl
noncomputable def cd109 : Code := match Go.Proofs.Tryz.f109.body with | some c => c | none => .skip
theorem pl109 : plT 109 = [(1, [9]), (4, [9]), (12, [8])] := rfl
theorem h110 : Has M 110 ((Pt Reader) × ByteArray × Unit) ((Po (Unit)) × (Pt Reader)) := ⟨fun _ => rfl, fun _ => rfl⟩
noncomputable def n110 (a0 : (Pt Reader)) (a1 : ByteArray) : Option ((Po (Unit)) × (Pt Reader)) := fnI M 110 (Po (Unit)) (a0, a1, ())
theorem c110 : (∀ {ρ : Type} (x : D) (ds : List D) (F : D × D → Option ρ), ((lastR M).i 110 x ds).bind F = (da (α := (Pt Reader) × ByteArray × Unit) (x :: ds)).bind (callI (fun x => n110 x.1 x.2.1) F)) ∧ ∀ aa, (envOf M aa).S 110 = some (.pbx ((lastR M).i 110)) := ⟨fun x ds F => call_iK h110 x ds F, fun _ => rfl⟩
theorem m110 : M.mode 110 = 6 := rfl
noncomputable def cd110 : Code := match Go.Proofs.Tryz.f110.body with | some c => c | none => .skip
theorem pl110 : plT 110 = [(0, [9]), (1, [8])] := rfl
theorem h111 : Has M 111 ((List TreeArg) × Fv × Unit) (Int) := ⟨fun _ => rfl, fun _ => rfl⟩
noncomputable def n111 (a0 : (List TreeArg)) (a1 : Fv) : Option (Int) := fnO M 111 (Int) (a0, a1, ())
theorem c111 : (∀ {ρ : Type} (ds : List D) (F : D → Option ρ), ((lastR M).o 111 ds).bind F = (da (α := (List TreeArg) × Fv × Unit) ds).bind (callN (fun x => n111 x.1 x.2.1) F)) ∧ ∀ aa, (envOf M aa).S 111 = some (.own ((lastR M).o 111)) := ⟨fun ds F => call_oK h111 ds F, fun _ => rfl⟩
theorem m111 : M.mode 111 = 0 := rfl
noncomputable def cd111 : Code := match Go.Proofs.Tryz.f111.body with | some c => c | none => .skip
theorem pl111 : plT 111 = [] := rfl
theorem lv111_2 : lvT 111 2 = [0, 1, 7, 8] := rfl
theorem h112 : Has M 112 (TreeExpr × Unit) (Bool) := ⟨fun _ => rfl, fun _ => rfl⟩
noncomputable def n112 (a0 : TreeExpr) : Option (Bool) := fnO M 112 (Bool) (a0, ())
theorem c112 : (∀ {ρ : Type} (ds : List D) (F : D → Option ρ), ((lastR M).o 112 ds).bind F = (da (α := TreeExpr × Unit) ds).bind (callN (fun x => n112 x.1) F)) ∧ ∀ aa, (envOf M aa).S 112 = some (.own ((lastR M).o 112)) := ⟨fun ds F => call_oK h112 ds F, fun _ => rfl⟩
theorem m112 : M.mode 112 = 0 := rfl
noncomputable def cd112 : Code := match Go.Proofs.Tryz.f112.body with | some c => c | none => .skip
theorem pl112 : plT 112 = [] := rfl
theorem h121 : Has M 121 (ByteArray × Unit) (Int × Bool) := ⟨fun _ => rfl, fun _ => rfl⟩
noncomputable def n121 (a0 : ByteArray) : Option (Int × Bool) := fnO M 121 (Int × Bool) (a0, ())
theorem c121 : (∀ {ρ : Type} (ds : List D) (F : D → Option ρ), ((lastR M).o 121 ds).bind F = (da (α := ByteArray × Unit) ds).bind (callN (fun x => n121 x.1) F)) ∧ ∀ aa, (envOf M aa).S 121 = some (.own ((lastR M).o 121)) := ⟨fun ds F => call_oK h121 ds F, fun _ => rfl⟩
theorem m121 : M.mode 121 = 0 := rfl
noncomputable def cd121 : Code := match Go.Proofs.Tryz.f121.body with | some c => c | none => .skip
theorem pl121 : plT 121 = [] := rfl
theorem lv121_8 : lvT 121 8 = [0, 4, 5, 6] := rfl
theorem h122 : Has M 122 (ByteArray × U8 × Unit) (Int) := ⟨fun _ => rfl, fun _ => rfl⟩
noncomputable def n122 (a0 : ByteArray) (a1 : U8) : Option (Int) := fnO M 122 (Int) (a0, a1, ())
theorem c122 : (∀ {ρ : Type} (ds : List D) (F : D → Option ρ), ((lastR M).o 122 ds).bind F = (da (α := ByteArray × U8 × Unit) ds).bind (callN (fun x => n122 x.1 x.2.1) F)) ∧ ∀ aa, (envOf M aa).S 122 = some (.own ((lastR M).o 122)) := ⟨fun ds F => call_oK h122 ds F, fun _ => rfl⟩
theorem m122 : M.mode 122 = 0 := rfl
noncomputable def cd122 : Code := match Go.Proofs.Tryz.f122.body with | some c => c | none => .skip
theorem pl122 : plT 122 = [] := rfl
theorem lv122_2 : lvT 122 2 = [0, 1, 5] := rfl
theorem h123 : Has M 123 (Unit) ((List ByteArray)) := ⟨fun _ => rfl, fun _ => rfl⟩
noncomputable def n123 : Option ((List ByteArray)) := fnO M 123 ((List ByteArray)) (())
theorem c123 : (∀ {ρ : Type} (ds : List D) (F : D → Option ρ), ((lastR M).o 123 ds).bind F = (da (α := Unit) ds).bind (callN (fun x => n123) F)) ∧ ∀ aa, (envOf M aa).S 123 = some (.own ((lastR M).o 123)) := ⟨fun ds F => call_oK h123 ds F, fun _ => rfl⟩
theorem m123 : M.mode 123 = 0 := rfl
noncomputable def cd123 : Code := match Go.Proofs.Tryz.f123.body with | some c => c | none => .skip
theorem pl123 : plT 123 = [] := rfl
theorem h124 : Has M 124 ((Pt Reader) × (List ByteArray) × Unit) (Bool) := ⟨fun _ => rfl, fun _ => rfl⟩
noncomputable def n124 (a0 : (Pt Reader)) (a1 : (List ByteArray)) : Option (Bool) := fnO M 124 (Bool) (a0, a1, ())
theorem c124 : (∀ {ρ : Type} (ds : List D) (F : D → Option ρ), ((lastR M).o 124 ds).bind F = (da (α := (Pt Reader) × (List ByteArray) × Unit) ds).bind (callN (fun x => n124 x.1 x.2.1) F)) ∧ ∀ aa, (envOf M aa).S 124 = some (.own ((lastR M).o 124)) := ⟨fun ds F => call_oK h124 ds F, fun _ => rfl⟩
theorem m124 : M.mode 124 = 0 := rfl
noncomputable def cd124 : Code := match Go.Proofs.Tryz.f124.body with | some c => c | none => .skip
theorem pl124 : plT 124 = [] := rfl
theorem h125 : Has M 125 ((Pt Reader) × Unit) ((Po (ByteArray)) × (Pt Reader)) := ⟨fun _ => rfl, fun _ => rfl⟩
noncomputable def n125 (a0 : (Pt Reader)) : Option ((Po (ByteArray)) × (Pt Reader)) := fnI M 125 (Po (ByteArray)) (a0, ())
theorem c125 : (∀ {ρ : Type} (x : D) (ds : List D) (F : D × D → Option ρ), ((lastR M).i 125 x ds).bind F = (da (α := (Pt Reader) × Unit) (x :: ds)).bind (callI (fun x => n125 x.1) F)) ∧ ∀ aa, (envOf M aa).S 125 = some (.pbx ((lastR M).i 125)) := ⟨fun x ds F => call_iK h125 x ds F, fun _ => rfl⟩
theorem m125 : M.mode 125 = 6 := rfl
noncomputable def cd125 : Code := match Go.Proofs.Tryz.f125.body with | some c => c | none => .skip
theorem pl125 : plT 125 = [(2, [8])] := rfl
theorem h126 : Has M 126 ((Pt Reader) × Unit) ((Po (Int)) × (Pt Reader)) := ⟨fun _ => rfl, fun _ => rfl⟩
noncomputable def n126 (a0 : (Pt Reader)) : Option ((Po (Int)) × (Pt Reader)) := fnI M 126 (Po (Int)) (a0, ())
theorem c126 : (∀ {ρ : Type} (x : D) (ds : List D) (F : D × D → Option ρ), ((lastR M).i 126 x ds).bind F = (da (α := (Pt Reader) × Unit) (x :: ds)).bind (callI (fun x => n126 x.1) F)) ∧ ∀ aa, (envOf M aa).S 126 = some (.pbx ((lastR M).i 126)) := ⟨fun x ds F => call_iK h126 x ds F, fun _ => rfl⟩
theorem m126 : M.mode 126 = 6 := rfl
noncomputable def cd126 : Code := match Go.Proofs.Tryz.f126.body with | some c => c | none => .skip
theorem pl126 : plT 126 = [(1, [9]), (3, [8])] := rfl
theorem h127 : Has M 127 (ByteArray × Unit) (Int × Bool) := ⟨fun _ => rfl, fun _ => rfl⟩
noncomputable def n127 (a0 : ByteArray) : Option (Int × Bool) := fnO M 127 (Int × Bool) (a0, ())
theorem c127 : (∀ {ρ : Type} (ds : List D) (F : D → Option ρ), ((lastR M).o 127 ds).bind F = (da (α := ByteArray × Unit) ds).bind (callN (fun x => n127 x.1) F)) ∧ ∀ aa, (envOf M aa).S 127 = some (.own ((lastR M).o 127)) := ⟨fun ds F => call_oK h127 ds F, fun _ => rfl⟩
theorem m127 : M.mode 127 = 0 := rfl
noncomputable def cd127 : Code := match Go.Proofs.Tryz.f127.body with | some c => c | none => .skip
theorem pl127 : plT 127 = [] := rfl
theorem h128 : Has M 128 ((Pt Reader) × Unit) ((Po (TreeExpr)) × (Pt Reader)) := ⟨fun _ => rfl, fun _ => rfl⟩
noncomputable def n128 (a0 : (Pt Reader)) : Option ((Po (TreeExpr)) × (Pt Reader)) := fnI M 128 (Po (TreeExpr)) (a0, ())
theorem c128 : (∀ {ρ : Type} (x : D) (ds : List D) (F : D × D → Option ρ), ((lastR M).i 128 x ds).bind F = (da (α := (Pt Reader) × Unit) (x :: ds)).bind (callI (fun x => n128 x.1) F)) ∧ ∀ aa, (envOf M aa).S 128 = some (.pbx ((lastR M).i 128)) := ⟨fun x ds F => call_iK h128 x ds F, fun _ => rfl⟩
theorem m128 : M.mode 128 = 6 := rfl
noncomputable def cd128 : Code := match Go.Proofs.Tryz.f128.body with | some c => c | none => .skip
theorem pl128 : plT 128 = [(1, [9]), (3, [8]), (9, [9]), (17, [9, 4, 5, 1004, 1005])] := rfl
theorem lv128_16 : lvT 128 16 = [0, 2, 4] := rfl
theorem h129 : Has M 129 (TreeExpr × Unit) (Bool) := ⟨fun _ => rfl, fun _ => rfl⟩
noncomputable def n129 (a0 : TreeExpr) : Option (Bool) := fnO M 129 (Bool) (a0, ())
theorem c129 : (∀ {ρ : Type} (ds : List D) (F : D → Option ρ), ((lastR M).o 129 ds).bind F = (da (α := TreeExpr × Unit) ds).bind (callN (fun x => n129 x.1) F)) ∧ ∀ aa, (envOf M aa).S 129 = some (.own ((lastR M).o 129)) := ⟨fun ds F => call_oK h129 ds F, fun _ => rfl⟩
theorem m129 : M.mode 129 = 0 := rfl
noncomputable def cd129 : Code := match Go.Proofs.Tryz.f129.body with | some c => c | none => .skip
theorem pl129 : plT 129 = [] := rfl
theorem h130 : Has M 130 ((List TreeExpr) × Fv × Unit) (Bool) := ⟨fun _ => rfl, fun _ => rfl⟩
noncomputable def n130 (a0 : (List TreeExpr)) (a1 : Fv) : Option (Bool) := fnO M 130 (Bool) (a0, a1, ())
theorem c130 : (∀ {ρ : Type} (ds : List D) (F : D → Option ρ), ((lastR M).o 130 ds).bind F = (da (α := (List TreeExpr) × Fv × Unit) ds).bind (callN (fun x => n130 x.1 x.2.1) F)) ∧ ∀ aa, (envOf M aa).S 130 = some (.own ((lastR M).o 130)) := ⟨fun ds F => call_oK h130 ds F, fun _ => rfl⟩
theorem m130 : M.mode 130 = 0 := rfl
noncomputable def cd130 : Code := match Go.Proofs.Tryz.f130.body with | some c => c | none => .skip
theorem pl130 : plT 130 = [] := rfl
theorem h131 : Has M 131 (TreeExpr × Unit) (Bool) := ⟨fun _ => rfl, fun _ => rfl⟩
noncomputable def n131 (a0 : TreeExpr) : Option (Bool) := fnO M 131 (Bool) (a0, ())
theorem c131 : (∀ {ρ : Type} (ds : List D) (F : D → Option ρ), ((lastR M).o 131 ds).bind F = (da (α := TreeExpr × Unit) ds).bind (callN (fun x => n131 x.1) F)) ∧ ∀ aa, (envOf M aa).S 131 = some (.own ((lastR M).o 131)) := ⟨fun ds F => call_oK h131 ds F, fun _ => rfl⟩
theorem m131 : M.mode 131 = 0 := rfl
noncomputable def cd131 : Code := match Go.Proofs.Tryz.f131.body with | some c => c | none => .skip
theorem pl131 : plT 131 = [] := rfl
theorem h145 : Has M 145 ((List ByteArray) × (List ByteArray) × Unit) (Bool) := ⟨fun _ => rfl, fun _ => rfl⟩
noncomputable def n145 (a0 : (List ByteArray)) (a1 : (List ByteArray)) : Option (Bool) := fnO M 145 (Bool) (a0, a1, ())
theorem c145 : (∀ {ρ : Type} (ds : List D) (F : D → Option ρ), ((lastR M).o 145 ds).bind F = (da (α := (List ByteArray) × (List ByteArray) × Unit) ds).bind (callN (fun x => n145 x.1 x.2.1) F)) ∧ ∀ aa, (envOf M aa).S 145 = some (.own ((lastR M).o 145)) := ⟨fun ds F => call_oK h145 ds F, fun _ => rfl⟩
theorem m145 : M.mode 145 = 0 := rfl
noncomputable def cd145 : Code := match Go.Proofs.Tryz.f145.body with | some c => c | none => .skip
theorem pl145 : plT 145 = [] := rfl
theorem lv145_4 : lvT 145 4 = [0, 1, 12, 13] := rfl
theorem h146 : Has M 146 (ByteArray × Unit) (Int) := ⟨fun _ => rfl, fun _ => rfl⟩
noncomputable def n146 (a0 : ByteArray) : Option (Int) := fnO M 146 (Int) (a0, ())
theorem c146 : (∀ {ρ : Type} (ds : List D) (F : D → Option ρ), ((lastR M).o 146 ds).bind F = (da (α := ByteArray × Unit) ds).bind (callN (fun x => n146 x.1) F)) ∧ ∀ aa, (envOf M aa).S 146 = some (.own ((lastR M).o 146)) := ⟨fun ds F => call_oK h146 ds F, fun _ => rfl⟩
theorem m146 : M.mode 146 = 0 := rfl
noncomputable def cd146 : Code := match Go.Proofs.Tryz.f146.body with | some c => c | none => .skip
theorem pl146 : plT 146 = [] := rfl
theorem h147 : Has M 147 (ByteArray × Unit) (Int × Bool) := ⟨fun _ => rfl, fun _ => rfl⟩
noncomputable def n147 (a0 : ByteArray) : Option (Int × Bool) := fnO M 147 (Int × Bool) (a0, ())
theorem c147 : (∀ {ρ : Type} (ds : List D) (F : D → Option ρ), ((lastR M).o 147 ds).bind F = (da (α := ByteArray × Unit) ds).bind (callN (fun x => n147 x.1) F)) ∧ ∀ aa, (envOf M aa).S 147 = some (.own ((lastR M).o 147)) := ⟨fun ds F => call_oK h147 ds F, fun _ => rfl⟩
theorem m147 : M.mode 147 = 0 := rfl
noncomputable def cd147 : Code := match Go.Proofs.Tryz.f147.body with | some c => c | none => .skip
theorem pl147 : plT 147 = [] := rfl
theorem h148 : Has M 148 (Int × Unit) (Bool) := ⟨fun _ => rfl, fun _ => rfl⟩
noncomputable def n148 (a0 : Int) : Option (Bool) := fnO M 148 (Bool) (a0, ())
theorem c148 : (∀ {ρ : Type} (ds : List D) (F : D → Option ρ), ((lastR M).o 148 ds).bind F = (da (α := Int × Unit) ds).bind (callN (fun x => n148 x.1) F)) ∧ ∀ aa, (envOf M aa).S 148 = some (.own ((lastR M).o 148)) := ⟨fun ds F => call_oK h148 ds F, fun _ => rfl⟩
theorem m148 : M.mode 148 = 0 := rfl
noncomputable def cd148 : Code := match Go.Proofs.Tryz.f148.body with | some c => c | none => .skip
theorem pl148 : plT 148 = [] := rfl
theorem h149 : Has M 149 (ByteArray × Unit) (T3 ByteArray ByteArray Bool) := ⟨fun _ => rfl, fun _ => rfl⟩
noncomputable def n149 (a0 : ByteArray) : Option (T3 ByteArray ByteArray Bool) := fnO M 149 (T3 ByteArray ByteArray Bool) (a0, ())
theorem c149 : (∀ {ρ : Type} (ds : List D) (F : D → Option ρ), ((lastR M).o 149 ds).bind F = (da (α := ByteArray × Unit) ds).bind (callN (fun x => n149 x.1) F)) ∧ ∀ aa, (envOf M aa).S 149 = some (.own ((lastR M).o 149)) := ⟨fun ds F => call_oK h149 ds F, fun _ => rfl⟩
theorem m149 : M.mode 149 = 0 := rfl
noncomputable def cd149 : Code := match Go.Proofs.Tryz.f149.body with | some c => c | none => .skip
theorem pl149 : plT 149 = [] := rfl
theorem h150 : Has M 150 (ByteArray × Unit) (Int) := ⟨fun _ => rfl, fun _ => rfl⟩
noncomputable def n150 (a0 : ByteArray) : Option (Int) := fnO M 150 (Int) (a0, ())
theorem c150 : (∀ {ρ : Type} (ds : List D) (F : D → Option ρ), ((lastR M).o 150 ds).bind F = (da (α := ByteArray × Unit) ds).bind (callN (fun x => n150 x.1) F)) ∧ ∀ aa, (envOf M aa).S 150 = some (.own ((lastR M).o 150)) := ⟨fun ds F => call_oK h150 ds F, fun _ => rfl⟩
theorem m150 : M.mode 150 = 0 := rfl
noncomputable def cd150 : Code := match Go.Proofs.Tryz.f150.body with | some c => c | none => .skip
theorem pl150 : plT 150 = [] := rfl
theorem h151 : Has M 151 ((List TreeExpr) × Fv × Unit) (Int) := ⟨fun _ => rfl, fun _ => rfl⟩
noncomputable def n151 (a0 : (List TreeExpr)) (a1 : Fv) : Option (Int) := fnO M 151 (Int) (a0, a1, ())
theorem c151 : (∀ {ρ : Type} (ds : List D) (F : D → Option ρ), ((lastR M).o 151 ds).bind F = (da (α := (List TreeExpr) × Fv × Unit) ds).bind (callN (fun x => n151 x.1 x.2.1) F)) ∧ ∀ aa, (envOf M aa).S 151 = some (.own ((lastR M).o 151)) := ⟨fun ds F => call_oK h151 ds F, fun _ => rfl⟩
theorem m151 : M.mode 151 = 0 := rfl
noncomputable def cd151 : Code := match Go.Proofs.Tryz.f151.body with | some c => c | none => .skip
theorem pl151 : plT 151 = [] := rfl
theorem lv151_2 : lvT 151 2 = [0, 1, 7, 8] := rfl
end Go.Fs.Se
