/- A part of the proof: an evaluator of the program's code over plain data, proved sound, and walks of the program's functions by it. No conditions beyond those in the theorems. -/
import Derived.Test.YtbgbnmghhmfihaaGreatLawMp14
set_option linter.unusedVariables false
set_option linter.unusedSimpArgs false
set_option linter.constructorNameAsVariable false
set_option linter.unusedSectionVars false
set_option linter.defProp false
set_option linter.unusedVariables false
set_option linter.defProp false
set_option maxRecDepth 20000
/-! What a run is reckoned by, tied together: one name each. -/
namespace Go.Fs
def locS := (And.intro (And.intro (And.intro @evW_loop @loc_nil) (And.intro @loc_seq0 @loc_seq1)) (And.intro (And.intro @loc_cond0 @loc_cond1) (And.intro @loc_block @loc_loop)))
def evS := (And.intro (And.intro (And.intro (And.intro (And.intro (And.intro (And.intro (And.intro (And.intro @Go.Fs.evK_seq @Go.Fs.evK_block) (And.intro @Go.Fs.evK_skip @Go.Fs.evK_exit)) (And.intro (And.intro @Go.Fs.evK_ret @Go.Fs.evK_cond) (And.intro @Go.Fs.evK_region (And.intro @Go.Fs.regK_eq @Go.Fs.thenK_normal)))) (And.intro (And.intro (And.intro @Go.Fs.thenK_exit @Go.Fs.thenK_ret) (And.intro @Go.Fs.lpK_normal (And.intro @Go.Fs.lpK_exit @Go.Fs.lpK_ret))) (And.intro (And.intro @Go.Fs.blkK_normal @Go.Fs.blkK_exit) (And.intro @Go.Fs.blkK_ret (And.intro @Go.Fs.regY_0 @Go.Fs.regY_x))))) (And.intro (And.intro (And.intro (And.intro @Go.Fs.regY_p0 @Go.Fs.y0K_nil) (And.intro @Go.Fs.y0K_cons @Go.Fs.regY_p)) (And.intro (And.intro @Go.Fs.regY_f @Go.Fs.yK_nil) (And.intro @Go.Fs.yK_cons (And.intro @Go.Fs.stepY.eq_1 @Go.Fs.wrB.eq_1)))) (And.intro (And.intro (And.intro @Go.Fs.allP.eq_1 @Go.Fs.allP.eq_2) (And.intro @Go.Fs.endY.eq_1 (And.intro @Go.Fs.chkY.eq_1 @Go.Fs.prsOf.eq_1))) (And.intro (And.intro @Go.Fs.prsOf.eq_2 @Go.Fs.eq_AV) (And.intro @Go.Fs.eq_oAV (And.intro @List.getElem?_toArray.{0} @List.size_toArray.{0})))))) (And.intro (And.intro (And.intro (And.intro (And.intro @List.lookup_cons.{0,0} @List.lookup_nil.{0,0}) (And.intro @Option.getD_none.{0} @Go.Fs.regE_0)) (And.intro (And.intro @Go.Fs.regE_g @Go.Fs.regE_q) (And.intro @Go.Fs.regE_gq (And.intro @Go.Fs.regE_x @Go.Fs.gsK_nil)))) (And.intro (And.intro (And.intro @Go.Fs.gsK_0 @Go.Fs.gsK_1) (And.intro @Go.Fs.gd1.eq_1 (And.intro @Go.Fs.gd1.eq_2 @Go.Fs.lastD.eq_1))) (And.intro (And.intro @Go.Fs.lastD.eq_2 @Go.Fs.lastD.eq_3) (And.intro @Go.Fs.segs.eq_1 (And.intro @Go.Fs.segs.eq_2 @Go.Fs.segs.eq_3))))) (And.intro (And.intro (And.intro (And.intro @Go.Fs.cutB.eq_1 @List.reverse_cons.{0}) (And.intro @List.reverse_nil.{0} (And.intro @Go.Fs.opsK_nil @Go.Fs.opsK_cons))) (And.intro (And.intro @Go.Fs.qsK_nil @Go.Fs.qsK_cons) (And.intro @Go.Fs.xsK_nil (And.intro @Go.Fs.xsK_cons @Go.Fs.gdE_eq)))) (And.intro (And.intro (And.intro @Go.Fs.gdS.eq_1 @Go.Fs.dstsOf.eq_1) (And.intro @Go.Fs.forget_at (And.intro @Go.Fs.asB_b @Go.Fs.and_some))) (And.intro (And.intro @Go.Fs.or_some @Go.Fs.bindB_some) (And.intro @Go.Fs.bindB_none (And.intro @Go.Fs.bindB_bind @Go.Fs.bindB_id))))))) (And.intro (And.intro (And.intro (And.intro (And.intro (And.intro @Go.Fs.bind_id @Go.Fs.opG.eq_1) (And.intro @Go.Fs.opE.eq_1 @Go.Fs.qGE.eq_1)) (And.intro (And.intro @Go.Fs.qE.eq_1 @Go.Fs.rdE.eq_1) (And.intro @Go.Fs.frE.eq_1 (And.intro @Go.Fs.xE.eq_1 @Go.Fs.flB.eq_1)))) (And.intro (And.intro (And.intro @Go.Fs.rdB.eq_1 @Go.Fs.frB.eq_1) (And.intro @Go.Fs.scalO.eq_1 (And.intro @Go.Fs.shaO.eq_1 @Go.Fs.valE.eq_1))) (And.intro (And.intro @Go.Fs.oPut.eq_1 @Go.Fs.oPut.eq_2) (And.intro @Go.Fs.ownE.eq_1 (And.intro @Go.Fs.sharedE.eq_1 @Go.Fs.nestE.eq_1))))) (And.intro (And.intro (And.intro (And.intro @Go.Fs.ioE3.eq_1 @Go.Fs.ioE2.eq_1) (And.intro @Go.Fs.callE.eq_1 @Go.Fs.storeE.eq_1)) (And.intro (And.intro @Go.Fs.dstAt.eq_1 @Go.Fs.vo_move) (And.intro @Go.Fs.vo_assign (And.intro @Go.Fs.vo_fieldAddr @Go.Fs.vo_indexAddr)))) (And.intro (And.intro (And.intro @Go.Fs.vo_index @Go.Fs.vo_binOp) (And.intro @Go.Fs.vo_unOp (And.intro @Go.Fs.vo_convert @Go.Fs.vo_alloc))) (And.intro (And.intro @Go.Fs.vo_box @Go.Fs.vo_build) (And.intro @Go.Fs.vo_buildSlice (And.intro @Go.Fs.vo_makeSlice @Go.Fs.vo_call)))))) (And.intro (And.intro (And.intro (And.intro (And.intro @Go.Fs.vo_load @Go.Fs.vo_extract) (And.intro @Go.Fs.vo_slice @Go.Fs.vo_makeFunc)) (And.intro (And.intro @Go.Fs.evP.eq_1 @Go.Fs.pairH.eq_1) (And.intro @Go.Fs.ixC.eq_1 (And.intro @Go.Fs.boxC.eq_1 @Go.Fs.bldC.eq_1)))) (And.intro (And.intro (And.intro @Go.Fs.bslC.eq_1 @Go.Fs.callB.eq_1) (And.intro @Go.Fs.capsOK.eq_1 (And.intro @Go.Fs.capsOK.eq_2 @Go.Fs.capsOK.eq_3))) (And.intro (And.intro @Go.Fs.capsOK.eq_4 @Go.Fs.St.ev.eq_1) (And.intro @Go.Fs.St.ev.eq_2 (And.intro @Go.Fs.St.ev.eq_3 @Go.Fs.St.ev.eq_4))))) (And.intro (And.intro (And.intro (And.intro @Go.Fs.inSt_eq @Go.Fs.insL.eq_1) (And.intro @Go.Fs.insL.eq_2 (And.intro @Go.Fs.inHeap.eq_1 @Go.Fs.inHeap.eq_2))) (And.intro (And.intro @Go.Fs.keyIn_eq @Go.Fs.ovr_eq) (And.intro @Go.Fs.inAV.eq_1 (And.intro @Go.Fs.inAV.eq_2 @Go.Fs.inAV.eq_3)))) (And.intro (And.intro (And.intro @Go.Fs.fixZ.eq_1 @Go.Fs.fixZ.eq_2) (And.intro @Go.Fs.zargs.eq_1 (And.intro @Go.Fs.zargs.eq_2 @Go.Fs.zargs.eq_3))) (And.intro (And.intro @Go.Fs.keyOf.eq_1 @Go.Fs.keyOf.eq_2) (And.intro @Go.Fs.freeAll.eq_1 (And.intro @Go.Fs.freeAll.eq_2 @Go.Fs.apart.eq_1)))))))) (And.intro (And.intro (And.intro (And.intro (And.intro (And.intro (And.intro @Go.Fs.nodupB.eq_1 @Go.Fs.nodupB.eq_2) (And.intro @Go.Fs.upd_at @Go.Fs.constAV_i)) (And.intro (And.intro @Go.Fs.constAV_b @Go.Fs.constAV_s) (And.intro @Go.Fs.constAV_z (And.intro @Go.Fs.constAV_n @Go.Fs.litS.eq_1)))) (And.intro (And.intro (And.intro @Go.Fs.litS.eq_2 @Go.Fs.opBin.eq_1) (And.intro @Go.Fs.opBin.eq_2 (And.intro @Go.Fs.opBin.eq_3 @Go.Fs.opBin.eq_4))) (And.intro (And.intro @Go.Fs.nilCmp.eq_1 @Go.Fs.nilCmp.eq_2) (And.intro @Go.Fs.nilCmp.eq_3 (And.intro @Go.Fs.opUn.eq_1 @Go.Fs.opUn.eq_2))))) (And.intro (And.intro (And.intro (And.intro @Go.Fs.opUn.eq_3 @Go.Fs.opConv.eq_def) (And.intro @Go.Fs.opExtract.eq_1 @Go.Fs.opExtract.eq_2)) (And.intro (And.intro @Go.Fs.binD.eq_1 @Go.Fs.binD.eq_2) (And.intro @Go.Fs.binD.eq_3 (And.intro @Go.Fs.binD.eq_4 @Go.Fs.binD.eq_5)))) (And.intro (And.intro (And.intro @Go.Fs.binD.eq_6 @Go.Fs.binD.eq_7) (And.intro @Go.Fs.binD.eq_8 (And.intro @Go.Fs.binD.eq_9 @Go.Fs.binD.eq_10))) (And.intro (And.intro @Go.Fs.binD.eq_11 @Go.Fs.binD.eq_12) (And.intro @Go.Fs.binD.eq_13 (And.intro @Go.Fs.binD.eq_14 @Go.Fs.binD.eq_15)))))) (And.intro (And.intro (And.intro (And.intro (And.intro @Go.Fs.binD.eq_16 @Go.Fs.binD.eq_17) (And.intro @Go.Fs.binD.eq_18 @Go.Fs.binD.eq_19)) (And.intro (And.intro @Go.Fs.binD.eq_20 @Go.Fs.binD.eq_21) (And.intro @Go.Fs.binD.eq_22 (And.intro @Go.Fs.binD.eq_23 @Go.Fs.binD.eq_24)))) (And.intro (And.intro (And.intro @Go.Fs.opLen.eq_1 @Go.Fs.opLen.eq_2) (And.intro @Go.Fs.opLen.eq_3 (And.intro @Go.Fs.opLen.eq_4 @Go.Fs.opLen.eq_5))) (And.intro (And.intro @Go.Fs.opLen.eq_6 @Go.Fs.opIndex.eq_1) (And.intro @Go.Fs.opField.eq_1 (And.intro @Go.Fs.opLoad.eq_1 @Go.Fs.ixE.eq_1))))) (And.intro (And.intro (And.intro (And.intro @Go.Fs.getI_map @Go.Fs.getI_set) (And.intro @Go.Fs.lit3S (And.intro @Go.Fs.gI3S @Go.Fs.uncL_setI))) (And.intro (And.intro @Go.Fs.uncL_setB @Go.Fs.uncL_setS) (And.intro @Int.cast_ofNat_Int (And.intro @Go.Fs.set_get @List.set_set.{0})))) (And.intro (And.intro (And.intro @Go.Fs.opB2S.eq_1 @Go.Fs.byteL.eq_1) (And.intro @Go.Fs.byteL.eq_2 (And.intro @Go.Fs.byteL.eq_3 @Go.Fs.ldE.eq_1))) (And.intro (And.intro @Go.Fs.ldE.eq_2 @Go.Fs.loadE.eq_1) (And.intro @Go.Fs.loadC.eq_1 (And.intro @Go.Fs.stE.eq_1 @Go.Fs.stE.eq_2))))))) (And.intro (And.intro (And.intro (And.intro (And.intro (And.intro @Go.Fs.opMax.eq_1 @Go.Fs.opMax.eq_2) (And.intro @Go.Fs.opMin.eq_1 @Go.Fs.opMin.eq_2)) (And.intro (And.intro @List.getElem?_map.{0,0} @Go.Fs.opStore.eq_1) (And.intro @Go.Fs.opBox.eq_1 (And.intro @Go.Fs.opAlloc.eq_1 @Go.Fs.opMake.eq_1)))) (And.intro (And.intro (And.intro @Go.Fs.opAppend.eq_1 @Go.Fs.opBuildSlice.eq_1) (And.intro @Go.Fs.opBuild.eq_1 (And.intro @Go.Fs.opSlice.eq_1 @Go.Fs.opSlice.eq_2))) (And.intro (And.intro @Go.Fs.opByte.eq_1 @Go.Fs.opByte.eq_2) (And.intro @Go.Fs.srcA.eq_1 (And.intro @Go.Fs.srcA.eq_2 @Go.Fs.srcA.eq_3))))) (And.intro (And.intro (And.intro (And.intro @Go.Fs.srcA.eq_4 @Go.Fs.zsc.eq_1) (And.intro @Go.Fs.zsc.eq_2 (And.intro @Go.Fs.all_I @Go.Fs.all_B))) (And.intro (And.intro @Go.Fs.all_S @Go.Fs.all_U) (And.intro @Go.Fs.map_dropR (And.intro @Go.Fs.map_takeR @List.map_append.{0,0})))) (And.intro (And.intro (And.intro @List.map_set.{0,0} @List.all_append.{0}) (And.intro @Go.Fs.dem1.eq_1 (And.intro @Go.Fs.demote.eq_1 @Go.Fs.demote.eq_2))) (And.intro (And.intro @Go.Fs.demote1.eq_1 @Go.Fs.demote1.eq_2) (And.intro @Go.Fs.demoteL.eq_1 (And.intro @Go.Fs.demoteL.eq_2 @Go.Fs.demAll.eq_1)))))) (And.intro (And.intro (And.intro (And.intro (And.intro @Go.Fs.demAll.eq_2 @Go.Fs.TK.agg.eq_1) (And.intro @Go.Fs.TK.agg.eq_2 @Go.Fs.TK.agg.eq_3)) (And.intro (And.intro @Go.Fs.pack.eq_1 @Go.Fs.cellsA.eq_1) (And.intro @Go.Fs.cellsA.eq_2 (And.intro @Go.Fs.oneA.eq_1 @Go.Fs.oneA.eq_2)))) (And.intro (And.intro (And.intro @Go.Fs.oneA.eq_3 @Go.Fs.oneA.eq_4) (And.intro @Go.Fs.oneA.eq_5 (And.intro @Go.Fs.oneA.eq_6 @Go.Fs.oneA.eq_7))) (And.intro (And.intro @Go.Fs.oneA.eq_8 @Go.Fs.oneA.eq_9) (And.intro @Go.Fs.moveCs.eq_1 (And.intro @Go.Fs.moveCs.eq_2 @Go.Fs.moveC.eq_1))))) (And.intro (And.intro (And.intro (And.intro @Go.Fs.moveC.eq_2 @Go.Fs.moveC.eq_3) (And.intro @Go.Fs.moveC.eq_4 (And.intro @Go.Fs.moveV.eq_1 @Go.Fs.moveV.eq_2))) (And.intro (And.intro @Go.Fs.moveVs.eq_1 @Go.Fs.moveVs.eq_2) (And.intro @Go.Fs.scal.eq_1 (And.intro @Go.Fs.scal.eq_2 @Go.Fs.scal.eq_3)))) (And.intro (And.intro (And.intro @Go.Fs.scal.eq_4 @Go.Fs.scal.eq_5) (And.intro @Go.Fs.packD.eq_1 (And.intro @Go.Fs.packD.eq_2 @Go.Fs.outR.eq_1))) (And.intro (And.intro @Go.Fs.resL.eq_1 @Go.Fs.resL.eq_2) (And.intro @Go.Fs.resL.eq_3 (And.intro @Go.Fs.bnd.eq_1 @Go.Fs.bnd.eq_2))))))))) (And.intro (And.intro (And.intro (And.intro (And.intro (And.intro (And.intro (And.intro @Go.Fs.bnd.eq_3 @Go.Fs.fillA.eq_1) (And.intro @Go.Fs.fillA.eq_2 @Go.Fs.placeT.eq_1)) (And.intro (And.intro @Go.Fs.sizesT.eq_1 @Go.Fs.zeroD.eq_1) (And.intro @Go.Fs.zeroD.eq_2 (And.intro @Go.Fs.zeroD.eq_3 @Go.Fs.opMkMap.eq_1)))) (And.intro (And.intro (And.intro @Go.Fs.opMapSet.eq_1 @Go.Fs.opMapSet.eq_2) (And.intro @Go.Fs.opMapGet.eq_1 (And.intro @Go.Fs.opMapGet.eq_2 @Go.Fs.mAt.eq_1))) (And.intro (And.intro @Go.Fs.borCE.eq_1 @Go.Fs.borCE.eq_2) (And.intro @Go.Fs.borCsE.eq_1 (And.intro @Go.Fs.borCsE.eq_2 @Go.Fs.borE.eq_1))))) (And.intro (And.intro (And.intro (And.intro @Go.Fs.borE.eq_2 @Go.Fs.borE.eq_3) (And.intro @Go.Fs.borE.eq_4 @Go.Fs.borLE.eq_1)) (And.intro (And.intro @Go.Fs.borLE.eq_2 @Go.Fs.borL.eq_1) (And.intro @Go.Fs.borL.eq_2 (And.intro @Go.Fs.bor.eq_1 @Go.Fs.bor.eq_2)))) (And.intro (And.intro (And.intro @Go.Fs.bor.eq_3 @Go.Fs.borB.eq_1) (And.intro @Go.Fs.borB.eq_2 (And.intro @Go.Fs.borC.eq_1 @Go.Fs.borC.eq_2))) (And.intro (And.intro @Go.Fs.borC.eq_3 @Go.Fs.borC.eq_4) (And.intro @Go.Fs.borC.eq_5 (And.intro @Go.Fs.borCs.eq_1 @Go.Fs.borCs.eq_2)))))) (And.intro (And.intro (And.intro (And.intro (And.intro @Go.Fs.borBs.eq_1 @Go.Fs.borBs.eq_2) (And.intro @Go.Fs.keyA.eq_1 @Go.Fs.keyA.eq_2)) (And.intro (And.intro @Go.Fs.keyA.eq_3 @Go.Fs.keyB.eq_1) (And.intro @Go.Fs.keyB.eq_2 (And.intro @Go.Fs.keyC.eq_1 @Go.Fs.keyC.eq_2)))) (And.intro (And.intro (And.intro @Go.Fs.keyC.eq_3 @Go.Fs.ioCs.eq_1) (And.intro @Go.Fs.ioCs.eq_2 (And.intro @Go.Fs.ioCs.eq_3 @Go.Fs.ioCs.eq_4))) (And.intro (And.intro @Go.Fs.ioObs.eq_1 @Go.Fs.ioObs.eq_2) (And.intro @Go.Fs.ioObs.eq_3 (And.intro @Go.Fs.ioObs.eq_4 @Go.Fs.ioD.eq_1))))) (And.intro (And.intro (And.intro (And.intro @Go.Fs.ioD.eq_2 @Go.Fs.adObs.eq_1) (And.intro @Go.Fs.adObs.eq_2 (And.intro @Go.Fs.adObs.eq_3 @Go.Fs.adCells.eq_1))) (And.intro (And.intro @Go.Fs.adCells.eq_2 @Go.Fs.adCells.eq_3) (And.intro @Go.Fs.partsD.eq_1 (And.intro @Go.Fs.partsD.eq_2 @Go.Fs.cellsD.eq_1)))) (And.intro (And.intro (And.intro @Go.Fs.cellsD.eq_2 @Go.Fs.retAV.eq_1) (And.intro @Go.Fs.retAV.eq_2 (And.intro @Go.Fs.oneAV.eq_1 @Go.Fs.oneAV.eq_2))) (And.intro (And.intro @Go.Fs.tupAV.eq_1 @Go.Fs.tupAV.eq_2) (And.intro @Go.Fs.updL.eq_1 (And.intro @Go.Fs.mCells.eq_1 @Go.Fs.mCells.eq_2))))))) (And.intro (And.intro (And.intro (And.intro (And.intro (And.intro @Go.Fs.mCell.eq_1 @Go.Fs.mCell.eq_2) (And.intro @Go.Fs.frzL.eq_1 @Go.Fs.frzL.eq_2)) (And.intro (And.intro @Go.Fs.frz1.eq_1 @Go.Fs.stL_n) (And.intro @Go.Fs.stL_env (And.intro @Go.Fs.stL_heap @Go.Fs.envL_cons)))) (And.intro (And.intro (And.intro @Go.Fs.envL_nil @Go.Fs.obL_cons) (And.intro @Go.Fs.obL_nil (And.intro @Go.Fs.noM.eq_1 @Go.Fs.noM.eq_2))) (And.intro (And.intro @Go.Fs.noMc.eq_1 @Go.Fs.noMc.eq_2) (And.intro @Go.Fs.noMc.eq_3 (And.intro @Go.Fs.noMc.eq_4 @Go.Fs.noMc.eq_5))))) (And.intro (And.intro (And.intro (And.intro @Go.Fs.noMc.eq_6 @Go.Fs.noMc.eq_7) (And.intro @Go.Fs.noMc.eq_8 @Go.Fs.noMc.eq_9)) (And.intro (And.intro @Go.Fs.endK.eq_1 @Go.Fs.endKM.eq_1) (And.intro @Go.Fs.endEM.eq_1 (And.intro @Go.Fs.endEM.eq_2 @Go.Fs.endEM.eq_3)))) (And.intro (And.intro (And.intro @Go.Fs.outM.eq_1 @Go.Fs.moveM.eq_1) (And.intro @Go.Fs.moveM.eq_2 (And.intro @Go.Fs.moveMs.eq_1 @Go.Fs.moveMs.eq_2))) (And.intro (And.intro @Go.Fs.moveMV.eq_1 @Go.Fs.moveMV.eq_2) (And.intro @Go.Fs.moveMVs.eq_1 (And.intro @Go.Fs.moveMVs.eq_2 @Go.Fs.eatE.eq_1)))))) (And.intro (And.intro (And.intro (And.intro (And.intro @Go.Fs.eatC.eq_1 @Go.Fs.eatC.eq_2) (And.intro @Go.Fs.eatR.eq_1 @Go.Fs.endI.eq_1)) (And.intro (And.intro @Go.Fs.outI.eq_1 @Go.Fs.decI2.eq_1) (And.intro @Go.Fs.callI_eq (And.intro @Go.Fs.nestC.eq_1 @List.set_cons_zero.{0})))) (And.intro (And.intro (And.intro @List.set_cons_succ.{0} @Go.Fs.endE.eq_1) (And.intro @Go.Fs.endE.eq_2 (And.intro @Go.Fs.endE.eq_3 @Go.Fs.outO.eq_1))) (And.intro (And.intro @decide_eq_true_eq @Bool.and_eq_true) (And.intro @Bool.or_eq_true (And.intro @Bool.not_eq_true' @decide_true))))) (And.intro (And.intro (And.intro (And.intro @decide_false @Go.Fs.enc_I) (And.intro @Go.Fs.enc_B (And.intro @Go.Fs.enc_S @Go.Fs.enc_U))) (And.intro (And.intro @Go.Fs.enc_F @Go.Fs.enc_L) (And.intro @Go.Fs.enc_2 (And.intro @Go.Fs.enc_3 @Go.Fs.cel_I)))) (And.intro (And.intro (And.intro @Go.Fs.cel_B @Go.Fs.cel_S) (And.intro @Go.Fs.cel_U (And.intro @Go.Fs.cel_L @Go.Fs.w_I))) (And.intro (And.intro @Go.Fs.w_B @Go.Fs.w_S) (And.intro @Go.Fs.w_U (And.intro @Go.Fs.w_L @Go.Fs.dec_I)))))))) (And.intro (And.intro (And.intro (And.intro (And.intro (And.intro (And.intro @Go.Fs.dec_B @Go.Fs.dec_S) (And.intro @Go.Fs.dec_U @Go.Fs.dec_F)) (And.intro (And.intro @Go.Fs.dec_L @Go.Fs.dec_2) (And.intro @Go.Fs.dec_3 (And.intro @Go.Fs.unc_I @Go.Fs.unc_B)))) (And.intro (And.intro (And.intro @Go.Fs.unc_S @Go.Fs.unc_U) (And.intro @Go.Fs.unc_L (And.intro @Go.Fs.uncL_nil @Go.Fs.uncL_cons))) (And.intro (And.intro @Go.Fs.uncL_app @Go.Fs.uncL_map) (And.intro @Go.Fs.ea_0 (And.intro @Go.Fs.ea_C @Go.Fs.da_0))))) (And.intro (And.intro (And.intro (And.intro @Go.Fs.da_C @Go.Fs.putQ.eq_1) (And.intro @Go.Fs.bindN_some @Go.Fs.bindN_none)) (And.intro (And.intro @Go.Fs.bindN_bind @Go.Fs.bindN_map) (And.intro @Go.Fs.bindN_omap (And.intro @Go.Fs.bindA @Go.Fs.compO_eq)))) (And.intro (And.intro (And.intro @Go.Fs.mapA_bind @Go.Fs.compM_eq) (And.intro @Go.Fs.bind_mapA (And.intro @Go.Fs.compB_eq @Go.Fs.getI_bind))) (And.intro (And.intro @Go.Fs.get_bind @Go.Fs.callN_eq) (And.intro @Go.Fs.qsC.eq_1 (And.intro @Go.Fs.ite_bind @Option.bind_some.{0,0})))))) (And.intro (And.intro (And.intro (And.intro (And.intro @Option.bind_none.{0,0} @Option.map_some.{0,0}) (And.intro @Option.map_none.{0,0} @Go.Fs.map_mapL)) (And.intro (And.intro @Go.Fs.map_ite @List.map_cons.{0,0}) (And.intro @List.map_nil.{0,0} (And.intro @List.drop_zero.{0} @List.drop_succ_cons.{0})))) (And.intro (And.intro (And.intro @List.take_zero.{0} @List.take_succ_cons.{0}) (And.intro @List.take_nil.{0} (And.intro @List.drop_nil.{0} @List.headD_cons.{0}))) (And.intro (And.intro @List.length_cons.{0} @List.length_nil.{0}) (And.intro @List.foldr_cons.{0,0} (And.intro @List.foldr_nil.{0,0} @List.flatMap_cons.{0,0}))))) (And.intro (And.intro (And.intro (And.intro @List.flatMap_nil.{0,0} @List.append_nil.{0}) (And.intro @List.nil_append.{0} (And.intro @List.cons_append.{0} @List.all_cons.{0}))) (And.intro (And.intro @List.all_nil.{0} @List.any_cons.{0}) (And.intro @List.any_nil.{0} (And.intro @List.contains_cons.{0} @List.contains_nil.{0})))) (And.intro (And.intro (And.intro @List.getElem?_cons_zero.{0} @List.getElem?_cons_succ.{0}) (And.intro @List.getElem?_nil.{0} (And.intro @List.zip_cons_cons.{0,0} @List.zip_nil_left.{0,0}))) (And.intro (And.intro @List.getD_cons_zero.{0} @List.getD_cons_succ.{0}) (And.intro @List.isEmpty_nil.{0} (And.intro @List.filterMap_cons.{0,0} @List.filterMap_nil.{0,0}))))))) (And.intro (And.intro (And.intro (And.intro (And.intro (And.intro @List.length_map.{0,0} @Go.Fs.eq_i64) (And.intro @Go.Fs.eq_u8 @false_and)) (And.intro (And.intro @and_false @true_or) (And.intro @or_true (And.intro @false_or @or_false)))) (And.intro (And.intro (And.intro @if_true.{0} @if_false.{0}) (And.intro @Int.le_refl (And.intro @Nat.zero_add @Nat.add_zero))) (And.intro (And.intro @Nat.le_refl @true_and) (And.intro @and_true (And.intro @Bool.and_true @Bool.true_and))))) (And.intro (And.intro (And.intro (And.intro @Bool.and_false @Bool.false_and) (And.intro @Bool.or_false (And.intro @Bool.or_true @Bool.false_or))) (And.intro (And.intro @Bool.true_or @Bool.not_true) (And.intro @Bool.not_false (And.intro @Bool.false_eq_true @Option.getD_some.{0})))) (And.intro (And.intro (And.intro @Option.isNone_none.{0} @Option.isNone_some.{0}) (And.intro @Option.isSome_some.{0} (And.intro @Option.isSome_none.{0} @Int.toNat_natCast))) (And.intro (And.intro @Go.Fs.rng_0 @Go.Fs.rng_1) (And.intro @Go.Fs.rng_2 (And.intro @Go.Fs.rng_3 @Go.Fs.rng_4)))))) (And.intro (And.intro (And.intro (And.intro (And.intro @Go.Fs.rng_5 @Go.Fs.rng_6) (And.intro @Go.Fs.rng_7 @Go.Fs.rng_8)) (And.intro (And.intro @Go.Fs.rng_9 @Go.Fs.rng_10) (And.intro @Go.Fs.rng_11 (And.intro @Go.Fs.rng_12 @Go.Fs.rng_13)))) (And.intro (And.intro (And.intro @Go.Fs.rng_14 @Go.Fs.rng_15) (And.intro @Go.Fs.rng_16 (And.intro @Go.Fs.rng_17 @Go.Fs.rng_18))) (And.intro (And.intro @Go.Fs.rng_19 @Go.Fs.rng_20) (And.intro @Go.Fs.rng_21 (And.intro @Go.Fs.rng_22 @Go.Fs.rng_23))))) (And.intro (And.intro (And.intro (And.intro @Go.Fs.chunk_z @Go.Fs.chunk_s) (And.intro @Go.Fs.evK_loop (And.intro @Go.Fs.cid.eq_1 @Go.Fs.cid.eq_2))) (And.intro (And.intro @Go.Fs.cid.eq_3 @Go.Fs.cid.eq_4) (And.intro @Go.Fs.cid.eq_5 (And.intro @Go.Fs.cid.eq_6 @Go.Fs.cid.eq_7)))) (And.intro (And.intro (And.intro @Go.Fs.evAt.eq_1 @Go.Fs.evRAt.eq_1) (And.intro @Go.Fs.evW_loop (And.intro @Go.Fs.loc_nil @Go.Fs.loc_seq0))) (And.intro (And.intro @Go.Fs.loc_seq1 @Go.Fs.loc_cond0) (And.intro @Go.Fs.loc_cond1 (And.intro @Go.Fs.loc_block @Go.Fs.loc_loop))))))))))
def rnS := (And.intro (And.intro (And.intro (And.intro (And.intro (And.intro (And.intro @Go.Fs.evK_loop @Go.Fs.cid.eq_1) (And.intro @Go.Fs.cid.eq_2 @Go.Fs.cid.eq_3)) (And.intro (And.intro @Go.Fs.cid.eq_4 @Go.Fs.cid.eq_5) (And.intro @Go.Fs.cid.eq_6 @Go.Fs.cid.eq_7))) (And.intro (And.intro (And.intro @Go.Fs.rnd.eq_1 @Go.Fs.rnd1.eq_1) (And.intro @Go.Fs.rnd2_e @Go.Fs.rnd3.eq_1)) (And.intro (And.intro @Go.Fs.noME.eq_1 @Go.Fs.noMH.eq_1) (And.intro @Go.Fs.wkE.eq_1 (And.intro @Go.Fs.wkO.eq_1 @Go.Fs.wkC_eq))))) (And.intro (And.intro (And.intro (And.intro @Go.Fs.keysE.eq_1 @Go.Fs.keysH.eq_1) (And.intro @Go.Fs.zsL.eq_1 @Go.Fs.zs1.eq_1)) (And.intro (And.intro @Go.Fs.zcL.eq_1 @Go.Fs.zc1.eq_1) (And.intro @Go.Fs.zboxes.eq_1 (And.intro @Go.Fs.zboxes.eq_2 @Go.Fs.zcells.eq_1)))) (And.intro (And.intro (And.intro @Go.Fs.zcells.eq_2 @Go.Fs.zcells.eq_3) (And.intro @Go.Fs.canon_e @Go.Fs.canon2_e)) (And.intro (And.intro @Go.Fs.canonGo.eq_1 @Go.Fs.canonGo.eq_2) (And.intro @Go.Fs.keysA.eq_1 (And.intro @Go.Fs.keysA.eq_2 @Go.Fs.keysA.eq_3)))))) (And.intro (And.intro (And.intro (And.intro (And.intro @Go.Fs.keysA.eq_4 @Go.Fs.keysC.eq_1) (And.intro @Go.Fs.keysC.eq_2 @Go.Fs.keysC.eq_3)) (And.intro (And.intro @Go.Fs.keysC.eq_4 @Go.Fs.keysC.eq_5) (And.intro @Go.Fs.keysC.eq_6 @Go.Fs.keysO.eq_1))) (And.intro (And.intro (And.intro @Go.Fs.keysO.eq_2 @Go.Fs.mapA.eq_1) (And.intro @Go.Fs.mapA.eq_2 @Go.Fs.mapA.eq_3)) (And.intro (And.intro @Go.Fs.mapA.eq_4 @Go.Fs.mapA.eq_5) (And.intro @Go.Fs.mapA.eq_6 (And.intro @Go.Fs.mapA.eq_7 @Go.Fs.mapA.eq_8))))) (And.intro (And.intro (And.intro (And.intro @Go.Fs.mapA.eq_9 @Go.Fs.mapA.eq_10) (And.intro @Go.Fs.mapA.eq_11 @Go.Fs.mapA.eq_12)) (And.intro (And.intro @Go.Fs.mapL.eq_1 @Go.Fs.mapL.eq_2) (And.intro @Go.Fs.obM.eq_1 (And.intro @Go.Fs.obM.eq_2 @Go.Fs.mapOb.eq_1)))) (And.intro (And.intro (And.intro @Go.Fs.mapOb.eq_2 @Go.Fs.mapOb.eq_3) (And.intro @Go.Fs.mapOb.eq_4 @Go.Fs.renOK.eq_1)) (And.intro (And.intro @Go.Fs.nodupB.eq_1 @Go.Fs.nodupB.eq_2) (And.intro @Go.Fs.fixAA.eq_1 (And.intro @Go.Fs.fixAA.eq_2 @Go.Fs.fixA.eq_1))))))) (And.intro (And.intro (And.intro (And.intro (And.intro (And.intro @Go.Fs.fixA.eq_2 @Go.Fs.fixA.eq_3) (And.intro @Go.Fs.fixA.eq_4 @Go.Fs.fixA.eq_5)) (And.intro (And.intro @Go.Fs.fixA.eq_6 @Go.Fs.noM.eq_1) (And.intro @Go.Fs.noM.eq_2 @Go.Fs.noMc.eq_1))) (And.intro (And.intro (And.intro @Go.Fs.noMc.eq_2 @Go.Fs.noMc.eq_3) (And.intro @Go.Fs.noMc.eq_4 @Go.Fs.noMc.eq_5)) (And.intro (And.intro @Go.Fs.noMc.eq_6 @Go.Fs.noMc.eq_7) (And.intro @Go.Fs.noMc.eq_8 (And.intro @Go.Fs.noMc.eq_9 @Go.Fs.noMo.eq_1))))) (And.intro (And.intro (And.intro (And.intro @Go.Fs.noMo.eq_2 @Go.Fs.ve0S_stL) (And.intro @Go.Fs.ve0o.eq_1 @Go.Fs.ve0o.eq_2)) (And.intro (And.intro @List.foldl_cons.{0,0} @List.foldl_nil.{0,0}) (And.intro @List.lookup_cons.{0,0} (And.intro @List.lookup_nil.{0,0} @List.flatMap_cons.{0,0})))) (And.intro (And.intro (And.intro @List.flatMap_nil.{0,0} @List.any_nil.{0}) (And.intro @List.any_cons.{0} @List.map_cons.{0,0})) (And.intro (And.intro @List.map_nil.{0,0} @List.all_nil.{0}) (And.intro @List.all_cons.{0} (And.intro @List.contains_cons.{0} @List.contains_nil.{0})))))) (And.intro (And.intro (And.intro (And.intro (And.intro @List.append_nil.{0} @List.nil_append.{0}) (And.intro @List.cons_append.{0} @List.getElem?_cons_zero.{0})) (And.intro (And.intro @List.getElem?_cons_succ.{0} @List.getElem?_nil.{0}) (And.intro @List.set_cons_zero.{0} @List.set_cons_succ.{0}))) (And.intro (And.intro (And.intro @Go.Fs.forget_at @Go.Fs.dstsOf.eq_1) (And.intro @Go.Fs.putQ.eq_1 @Go.Fs.gdS.eq_1)) (And.intro (And.intro @Go.Fs.upd_at @if_true.{0}) (And.intro @if_false.{0} (And.intro @Bool.or_false @Bool.or_true))))) (And.intro (And.intro (And.intro (And.intro @Bool.true_or @Bool.false_or) (And.intro @Bool.not_false @Bool.not_true)) (And.intro (And.intro @Bool.false_eq_true @Bool.and_true) (And.intro @Bool.true_and (And.intro @and_true @true_and)))) (And.intro (And.intro (And.intro @Option.bind_some.{0,0} @Option.bind_none.{0,0}) (And.intro @Go.Fs.stL_n @Go.Fs.stL_env)) (And.intro (And.intro @Go.Fs.stL_heap @Go.Fs.envL_cons) (And.intro @Go.Fs.envL_nil (And.intro @Go.Fs.obL_cons @Go.Fs.obL_nil))))))))
end Go.Fs

set_option linter.unusedVariables false
namespace Go.Fs
open Cel (cel unc)
open Dat (enc dec)
open Arg (ea da)

structure TreeArg where
  name : ByteArray
  type : Int
  deriving Inhabited
def uncTreeArg : List D → Option TreeArg
  | [d0, d1] => (dec d0).bind fun x_name => (dec d1).bind fun x_type => some ⟨x_name, x_type⟩
  | _ => none
instance : Cel TreeArg where
  cel x := [enc x.name, enc x.type]
  unc := uncTreeArg
  w := 2
  unc_cel x := by
    obtain ⟨x_name, x_type⟩ := x
    simp only [uncTreeArg, Dat.dec_enc, Option.bind_some]
  cel_unc ds x h := by
    unfold uncTreeArg at h
    split at h
    · simp only [Option.bind_eq_some_iff, Option.some.injEq] at h
      obtain ⟨y_name, h_name, y_type, h_type, rfl⟩ := h
      have k_name := Dat.enc_dec _ _ h_name
      have k_type := Dat.enc_dec _ _ h_type
      simp only [k_name, k_type]
    · cases h
  len x := by simp only [List.length_cons, List.length_nil, List.length_append]
instance : Dat TreeArg := datOf
theorem w_TreeArg : Cel.w TreeArg = 2 := rfl
theorem cel_TreeArg (x : TreeArg) : cel x = [enc x.name, enc x.type] := rfl
theorem unc_TreeArg (d0 d1 : D) : unc (α := TreeArg) [d0, d1] = (dec d0).bind fun x_name => (dec d1).bind fun x_type => some ⟨x_name, x_type⟩ := rfl
theorem enc_TreeArg (x : TreeArg) : enc x = .g (cel x) := rfl
theorem dec_TreeArg (ds : List D) : dec (α := TreeArg) (.g ds) = unc ds := rfl
theorem eta_TreeArg (x : TreeArg) : (⟨x.name, x.type⟩ : TreeArg) = x := by cases x; rfl
theorem all_TreeArg (xs : List TreeArg) : (xs.map cel).all (fun x => x.all scal) = true := all_scal (fun _ => rfl) xs

structure TreeExpr where
  kind : Int
  num : Int
  name : ByteArray
  mod : ByteArray
  kids : (List TreeExpr)
mutual
def TreeExpr.cel' : TreeExpr → List D
  | ⟨k, n, s, m, ks⟩ => [.i .i64 k, .i .i64 n, .s s, .s m, .l 5 (TreeExpr.celL ks)]
def TreeExpr.celL : List TreeExpr → List (List D)
  | [] => []
  | e :: es => TreeExpr.cel' e :: TreeExpr.celL es
end
mutual
def TreeExpr.unc' : List D → Option TreeExpr
  | [.i .i64 k, .i .i64 n, .s s, .s m, .l 5 ks] => (TreeExpr.uncL' ks).map fun es => ⟨k, n, s, m, es⟩
  | _ => none
def TreeExpr.uncL' : List (List D) → Option (List TreeExpr)
  | [] => some []
  | e :: es => (TreeExpr.unc' e).bind fun x => (TreeExpr.uncL' es).map (x :: ·)
end
mutual
theorem TreeExpr.unc_cel' : ∀ e : TreeExpr, TreeExpr.unc' (TreeExpr.cel' e) = some e
  | ⟨k, n, s, m, ks⟩ => by simp only [TreeExpr.cel', TreeExpr.unc', TreeExpr.unc_celL ks, Option.map_some]
theorem TreeExpr.unc_celL : ∀ es : List TreeExpr, TreeExpr.uncL' (TreeExpr.celL es) = some es
  | [] => by simp only [TreeExpr.celL, TreeExpr.uncL']
  | e :: es => by simp only [TreeExpr.celL, TreeExpr.uncL', TreeExpr.unc_cel' e, Option.bind_some, TreeExpr.unc_celL es, Option.map_some]
end
mutual
theorem TreeExpr.cel_unc' : ∀ (ds : List D) (e : TreeExpr), TreeExpr.unc' ds = some e → ds = TreeExpr.cel' e
  | [.i .i64 k, .i .i64 n, .s s, .s m, .l 5 ks], e, h => by
    simp only [TreeExpr.unc', Option.map_eq_some_iff] at h
    obtain ⟨es, h, rfl⟩ := h
    simp only [TreeExpr.cel', TreeExpr.cel_uncL ks es h]
  | [], e, h => by simp [TreeExpr.unc'] at h
  | ds, e, h => by
    unfold TreeExpr.unc' at h
    split at h
    · rename_i k n s m ks
      simp only [Option.map_eq_some_iff] at h
      obtain ⟨es, h, rfl⟩ := h
      simp only [TreeExpr.cel', TreeExpr.cel_uncL ks es h]
    · cases h
theorem TreeExpr.cel_uncL : ∀ (ds : List (List D)) (es : List TreeExpr), TreeExpr.uncL' ds = some es → ds = TreeExpr.celL es
  | [], es, h => by simp only [TreeExpr.uncL', Option.some.injEq] at h; subst h; rfl
  | d :: ds, es, h => by
    simp only [TreeExpr.uncL', Option.bind_eq_some_iff, Option.map_eq_some_iff] at h
    obtain ⟨x, h1, xs, h2, rfl⟩ := h
    rw [TreeExpr.celL, TreeExpr.cel_unc' d x h1, TreeExpr.cel_uncL ds xs h2]
end
instance : Cel TreeExpr := ⟨TreeExpr.cel', TreeExpr.unc', 5, TreeExpr.unc_cel', TreeExpr.cel_unc', fun e => by cases e; rfl⟩
theorem TreeExpr.celL_map : ∀ es : List TreeExpr, TreeExpr.celL es = es.map cel
  | [] => rfl
  | e :: es => by rw [TreeExpr.celL, TreeExpr.celL_map es]; rfl
theorem TreeExpr.uncL_map : ∀ ds : List (List D), TreeExpr.uncL' ds = uncL (unc (α := TreeExpr)) ds
  | [] => by simp only [TreeExpr.uncL', uncL]
  | d :: ds => by rw [TreeExpr.uncL', TreeExpr.uncL_map ds]; rfl
instance : Dat TreeExpr := datOf
instance : Inhabited TreeExpr := ⟨⟨0, 0, .empty, .empty, []⟩⟩
theorem cel_TreeExpr' (x : TreeExpr) : cel x = [enc x.kind, enc x.num, enc x.name, enc x.mod, enc x.kids] := by
  obtain ⟨k, n, s, m, ks⟩ := x
  show TreeExpr.cel' _ = _
  simp only [TreeExpr.cel', TreeExpr.celL_map]
  rfl
theorem unc_TreeExpr' (d0 d1 d2 d3 d4 : D) : unc (α := TreeExpr) [d0, d1, d2, d3, d4] = (dec d0).bind fun x_kind => (dec d1).bind fun x_num => (dec d2).bind fun x_name => (dec d3).bind fun x_mod => (dec d4).bind fun x_kids => some ⟨x_kind, x_num, x_name, x_mod, x_kids⟩ := by
  apply Option.ext
  intro e
  constructor
  · intro h
    have h2 := Cel.cel_unc _ _ h
    rw [cel_TreeExpr'] at h2
    simp only [List.cons.injEq, and_true] at h2
    obtain ⟨rfl, rfl, rfl, rfl, rfl⟩ := h2
    simp only [Dat.dec_enc, Option.bind_some]
    cases e; rfl
  · intro h
    simp only [Option.bind_eq_some_iff, Option.some.injEq] at h
    obtain ⟨k, h1, n, h2, s, h3, m, h4, ks, h5, rfl⟩ := h
    rw [Dat.enc_dec _ _ h1, Dat.enc_dec _ _ h2, Dat.enc_dec _ _ h3, Dat.enc_dec _ _ h4, Dat.enc_dec _ _ h5]
    have := Cel.unc_cel (⟨k, n, s, m, ks⟩ : TreeExpr)
    rw [cel_TreeExpr'] at this
    exact this

theorem w_TreeExpr : Cel.w TreeExpr = 5 := rfl
theorem cel_TreeExpr (x : TreeExpr) : cel x = [enc x.kind, enc x.num, enc x.name, enc x.mod, enc x.kids] := cel_TreeExpr' x
theorem unc_TreeExpr (d0 d1 d2 d3 d4 : D) : unc (α := TreeExpr) [d0, d1, d2, d3, d4] = (dec d0).bind fun x_kind => (dec d1).bind fun x_num => (dec d2).bind fun x_name => (dec d3).bind fun x_mod => (dec d4).bind fun x_kids => some ⟨x_kind, x_num, x_name, x_mod, x_kids⟩ := unc_TreeExpr' d0 d1 d2 d3 d4
theorem enc_TreeExpr (x : TreeExpr) : enc x = .g (cel x) := rfl
theorem dec_TreeExpr (ds : List D) : dec (α := TreeExpr) (.g ds) = unc ds := rfl
theorem eta_TreeExpr (x : TreeExpr) : (⟨x.kind, x.num, x.name, x.mod, x.kids⟩ : TreeExpr) = x := by cases x; rfl

structure TreeFun where
  name : ByteArray
  pub : Bool
  args : (List TreeArg)
  type : Int
  body : TreeExpr
  deriving Inhabited
def uncTreeFun : List D → Option TreeFun
  | [d0, d1, d2, d3, d4, d5, d6, d7, d8] => (dec d0).bind fun x_name => (dec d1).bind fun x_pub => (dec d2).bind fun x_args => (dec d3).bind fun x_type => (unc [d4, d5, d6, d7, d8]).bind fun x_body => some ⟨x_name, x_pub, x_args, x_type, x_body⟩
  | _ => none
instance : Cel TreeFun where
  cel x := [enc x.name, enc x.pub, enc x.args, enc x.type] ++ cel x.body
  unc := uncTreeFun
  w := 9
  unc_cel x := by
    obtain ⟨x_name, x_pub, x_args, x_type, x_body⟩ := x
    have h_body := Cel.unc_cel x_body
    have l_body := Cel.len x_body
    obtain ⟨e_body0, e_body1, e_body2, e_body3, e_body4, e_body⟩ := len5 l_body
    rw [e_body] at h_body
    simp only [e_body, List.cons_append, List.nil_append, List.append_nil]
    simp only [uncTreeFun, Dat.dec_enc, Option.bind_some, h_body]
  cel_unc ds x h := by
    unfold uncTreeFun at h
    split at h
    · simp only [Option.bind_eq_some_iff, Option.some.injEq] at h
      obtain ⟨y_name, h_name, y_pub, h_pub, y_args, h_args, y_type, h_type, y_body, h_body, rfl⟩ := h
      have k_name := Dat.enc_dec _ _ h_name
      have k_pub := Dat.enc_dec _ _ h_pub
      have k_args := Dat.enc_dec _ _ h_args
      have k_type := Dat.enc_dec _ _ h_type
      have k_body := Cel.cel_unc _ _ h_body
      simp only [k_name, k_pub, k_args, k_type, ← k_body, List.cons_append, List.nil_append]
    · cases h
  len x := by simp only [List.length_cons, List.length_nil, List.length_append, Cel.len x.body, show Cel.w TreeExpr = 5 from rfl]
instance : Dat TreeFun := datOf
theorem w_TreeFun : Cel.w TreeFun = 9 := rfl
theorem cel_TreeFun (x : TreeFun) : cel x = [enc x.name, enc x.pub, enc x.args, enc x.type] ++ cel x.body := rfl
theorem unc_TreeFun (d0 d1 d2 d3 d4 d5 d6 d7 d8 : D) : unc (α := TreeFun) [d0, d1, d2, d3, d4, d5, d6, d7, d8] = (dec d0).bind fun x_name => (dec d1).bind fun x_pub => (dec d2).bind fun x_args => (dec d3).bind fun x_type => (unc [d4, d5, d6, d7, d8]).bind fun x_body => some ⟨x_name, x_pub, x_args, x_type, x_body⟩ := rfl
theorem enc_TreeFun (x : TreeFun) : enc x = .g (cel x) := rfl
theorem dec_TreeFun (ds : List D) : dec (α := TreeFun) (.g ds) = unc ds := rfl
theorem eta_TreeFun (x : TreeFun) : (⟨x.name, x.pub, x.args, x.type, x.body⟩ : TreeFun) = x := by cases x; rfl

structure TreeMod where
  uses : (List ByteArray)
  funs : (List TreeFun)
  main : (List TreeExpr)
  deriving Inhabited
def uncTreeMod : List D → Option TreeMod
  | [d0, d1, d2] => (dec d0).bind fun x_uses => (dec d1).bind fun x_funs => (dec d2).bind fun x_main => some ⟨x_uses, x_funs, x_main⟩
  | _ => none
instance : Cel TreeMod where
  cel x := [enc x.uses, enc x.funs, enc x.main]
  unc := uncTreeMod
  w := 3
  unc_cel x := by
    obtain ⟨x_uses, x_funs, x_main⟩ := x
    simp only [uncTreeMod, Dat.dec_enc, Option.bind_some]
  cel_unc ds x h := by
    unfold uncTreeMod at h
    split at h
    · simp only [Option.bind_eq_some_iff, Option.some.injEq] at h
      obtain ⟨y_uses, h_uses, y_funs, h_funs, y_main, h_main, rfl⟩ := h
      have k_uses := Dat.enc_dec _ _ h_uses
      have k_funs := Dat.enc_dec _ _ h_funs
      have k_main := Dat.enc_dec _ _ h_main
      simp only [k_uses, k_funs, k_main]
    · cases h
  len x := by simp only [List.length_cons, List.length_nil, List.length_append]
instance : Dat TreeMod := datOf
theorem w_TreeMod : Cel.w TreeMod = 3 := rfl
theorem cel_TreeMod (x : TreeMod) : cel x = [enc x.uses, enc x.funs, enc x.main] := rfl
theorem unc_TreeMod (d0 d1 d2 : D) : unc (α := TreeMod) [d0, d1, d2] = (dec d0).bind fun x_uses => (dec d1).bind fun x_funs => (dec d2).bind fun x_main => some ⟨x_uses, x_funs, x_main⟩ := rfl
theorem enc_TreeMod (x : TreeMod) : enc x = .g (cel x) := rfl
theorem dec_TreeMod (ds : List D) : dec (α := TreeMod) (.g ds) = unc ds := rfl
theorem eta_TreeMod (x : TreeMod) : (⟨x.uses, x.funs, x.main⟩ : TreeMod) = x := by cases x; rfl

structure MeanMod where
  name : ByteArray
  mod : TreeMod
  deriving Inhabited
def uncMeanMod : List D → Option MeanMod
  | [d0, d1, d2, d3] => (dec d0).bind fun x_name => (unc [d1, d2, d3]).bind fun x_mod => some ⟨x_name, x_mod⟩
  | _ => none
instance : Cel MeanMod where
  cel x := [enc x.name] ++ cel x.mod
  unc := uncMeanMod
  w := 4
  unc_cel x := by
    obtain ⟨x_name, x_mod⟩ := x
    have h_mod := Cel.unc_cel x_mod
    have l_mod := Cel.len x_mod
    obtain ⟨e_mod0, e_mod1, e_mod2, e_mod⟩ := len3 l_mod
    rw [e_mod] at h_mod
    simp only [e_mod, List.cons_append, List.nil_append, List.append_nil]
    simp only [uncMeanMod, Dat.dec_enc, Option.bind_some, h_mod]
  cel_unc ds x h := by
    unfold uncMeanMod at h
    split at h
    · simp only [Option.bind_eq_some_iff, Option.some.injEq] at h
      obtain ⟨y_name, h_name, y_mod, h_mod, rfl⟩ := h
      have k_name := Dat.enc_dec _ _ h_name
      have k_mod := Cel.cel_unc _ _ h_mod
      simp only [k_name, ← k_mod, List.cons_append, List.nil_append]
    · cases h
  len x := by simp only [List.length_cons, List.length_nil, List.length_append, Cel.len x.mod, show Cel.w TreeMod = 3 from rfl]
instance : Dat MeanMod := datOf
theorem w_MeanMod : Cel.w MeanMod = 4 := rfl
theorem cel_MeanMod (x : MeanMod) : cel x = [enc x.name] ++ cel x.mod := rfl
theorem unc_MeanMod (d0 d1 d2 d3 : D) : unc (α := MeanMod) [d0, d1, d2, d3] = (dec d0).bind fun x_name => (unc [d1, d2, d3]).bind fun x_mod => some ⟨x_name, x_mod⟩ := rfl
theorem enc_MeanMod (x : MeanMod) : enc x = .g (cel x) := rfl
theorem dec_MeanMod (ds : List D) : dec (α := MeanMod) (.g ds) = unc ds := rfl
theorem eta_MeanMod (x : MeanMod) : (⟨x.name, x.mod⟩ : MeanMod) = x := by cases x; rfl

structure FaceSig where
  name : ByteArray
  args : (List Int)
  type : Int
  deriving Inhabited
def uncFaceSig : List D → Option FaceSig
  | [d0, d1, d2] => (dec d0).bind fun x_name => (dec d1).bind fun x_args => (dec d2).bind fun x_type => some ⟨x_name, x_args, x_type⟩
  | _ => none
instance : Cel FaceSig where
  cel x := [enc x.name, enc x.args, enc x.type]
  unc := uncFaceSig
  w := 3
  unc_cel x := by
    obtain ⟨x_name, x_args, x_type⟩ := x
    simp only [uncFaceSig, Dat.dec_enc, Option.bind_some]
  cel_unc ds x h := by
    unfold uncFaceSig at h
    split at h
    · simp only [Option.bind_eq_some_iff, Option.some.injEq] at h
      obtain ⟨y_name, h_name, y_args, h_args, y_type, h_type, rfl⟩ := h
      have k_name := Dat.enc_dec _ _ h_name
      have k_args := Dat.enc_dec _ _ h_args
      have k_type := Dat.enc_dec _ _ h_type
      simp only [k_name, k_args, k_type]
    · cases h
  len x := by simp only [List.length_cons, List.length_nil, List.length_append]
instance : Dat FaceSig := datOf
theorem w_FaceSig : Cel.w FaceSig = 3 := rfl
theorem cel_FaceSig (x : FaceSig) : cel x = [enc x.name, enc x.args, enc x.type] := rfl
theorem unc_FaceSig (d0 d1 d2 : D) : unc (α := FaceSig) [d0, d1, d2] = (dec d0).bind fun x_name => (dec d1).bind fun x_args => (dec d2).bind fun x_type => some ⟨x_name, x_args, x_type⟩ := rfl
theorem enc_FaceSig (x : FaceSig) : enc x = .g (cel x) := rfl
theorem dec_FaceSig (ds : List D) : dec (α := FaceSig) (.g ds) = unc ds := rfl
theorem eta_FaceSig (x : FaceSig) : (⟨x.name, x.args, x.type⟩ : FaceSig) = x := by cases x; rfl

structure TypeFace where
  mod : ByteArray
  sigs : (List FaceSig)
  deriving Inhabited
def uncTypeFace : List D → Option TypeFace
  | [d0, d1] => (dec d0).bind fun x_mod => (dec d1).bind fun x_sigs => some ⟨x_mod, x_sigs⟩
  | _ => none
instance : Cel TypeFace where
  cel x := [enc x.mod, enc x.sigs]
  unc := uncTypeFace
  w := 2
  unc_cel x := by
    obtain ⟨x_mod, x_sigs⟩ := x
    simp only [uncTypeFace, Dat.dec_enc, Option.bind_some]
  cel_unc ds x h := by
    unfold uncTypeFace at h
    split at h
    · simp only [Option.bind_eq_some_iff, Option.some.injEq] at h
      obtain ⟨y_mod, h_mod, y_sigs, h_sigs, rfl⟩ := h
      have k_mod := Dat.enc_dec _ _ h_mod
      have k_sigs := Dat.enc_dec _ _ h_sigs
      simp only [k_mod, k_sigs]
    · cases h
  len x := by simp only [List.length_cons, List.length_nil, List.length_append]
instance : Dat TypeFace := datOf
theorem w_TypeFace : Cel.w TypeFace = 2 := rfl
theorem cel_TypeFace (x : TypeFace) : cel x = [enc x.mod, enc x.sigs] := rfl
theorem unc_TypeFace (d0 d1 : D) : unc (α := TypeFace) [d0, d1] = (dec d0).bind fun x_mod => (dec d1).bind fun x_sigs => some ⟨x_mod, x_sigs⟩ := rfl
theorem enc_TypeFace (x : TypeFace) : enc x = .g (cel x) := rfl
theorem dec_TypeFace (ds : List D) : dec (α := TypeFace) (.g ds) = unc ds := rfl
theorem eta_TypeFace (x : TypeFace) : (⟨x.mod, x.sigs⟩ : TypeFace) = x := by cases x; rfl

structure TypeFault where
  code : Int
  fun_ : Int
  deriving Inhabited
def uncTypeFault : List D → Option TypeFault
  | [d0, d1] => (dec d0).bind fun x_code => (dec d1).bind fun x_fun_ => some ⟨x_code, x_fun_⟩
  | _ => none
instance : Cel TypeFault where
  cel x := [enc x.code, enc x.fun_]
  unc := uncTypeFault
  w := 2
  unc_cel x := by
    obtain ⟨x_code, x_fun_⟩ := x
    simp only [uncTypeFault, Dat.dec_enc, Option.bind_some]
  cel_unc ds x h := by
    unfold uncTypeFault at h
    split at h
    · simp only [Option.bind_eq_some_iff, Option.some.injEq] at h
      obtain ⟨y_code, h_code, y_fun_, h_fun_, rfl⟩ := h
      have k_code := Dat.enc_dec _ _ h_code
      have k_fun_ := Dat.enc_dec _ _ h_fun_
      simp only [k_code, k_fun_]
    · cases h
  len x := by simp only [List.length_cons, List.length_nil, List.length_append]
instance : Dat TypeFault := datOf
theorem w_TypeFault : Cel.w TypeFault = 2 := rfl
theorem cel_TypeFault (x : TypeFault) : cel x = [enc x.code, enc x.fun_] := rfl
theorem unc_TypeFault (d0 d1 : D) : unc (α := TypeFault) [d0, d1] = (dec d0).bind fun x_code => (dec d1).bind fun x_fun_ => some ⟨x_code, x_fun_⟩ := rfl
theorem enc_TypeFault (x : TypeFault) : enc x = .g (cel x) := rfl
theorem dec_TypeFault (ds : List D) : dec (α := TypeFault) (.g ds) = unc ds := rfl
theorem eta_TypeFault (x : TypeFault) : (⟨x.code, x.fun_⟩ : TypeFault) = x := by cases x; rfl
theorem all_TypeFault (xs : List TypeFault) : (xs.map cel).all (fun x => x.all scal) = true := all_scal (fun _ => rfl) xs

structure MeanEnd where
  end_ : Int
  trap : Int
  out : (List Int)
  steps : Int
  deriving Inhabited
def uncMeanEnd : List D → Option MeanEnd
  | [d0, d1, d2, d3] => (dec d0).bind fun x_end_ => (dec d1).bind fun x_trap => (dec d2).bind fun x_out => (dec d3).bind fun x_steps => some ⟨x_end_, x_trap, x_out, x_steps⟩
  | _ => none
instance : Cel MeanEnd where
  cel x := [enc x.end_, enc x.trap, enc x.out, enc x.steps]
  unc := uncMeanEnd
  w := 4
  unc_cel x := by
    obtain ⟨x_end_, x_trap, x_out, x_steps⟩ := x
    simp only [uncMeanEnd, Dat.dec_enc, Option.bind_some]
  cel_unc ds x h := by
    unfold uncMeanEnd at h
    split at h
    · simp only [Option.bind_eq_some_iff, Option.some.injEq] at h
      obtain ⟨y_end_, h_end_, y_trap, h_trap, y_out, h_out, y_steps, h_steps, rfl⟩ := h
      have k_end_ := Dat.enc_dec _ _ h_end_
      have k_trap := Dat.enc_dec _ _ h_trap
      have k_out := Dat.enc_dec _ _ h_out
      have k_steps := Dat.enc_dec _ _ h_steps
      simp only [k_end_, k_trap, k_out, k_steps]
    · cases h
  len x := by simp only [List.length_cons, List.length_nil, List.length_append]
instance : Dat MeanEnd := datOf
theorem w_MeanEnd : Cel.w MeanEnd = 4 := rfl
theorem cel_MeanEnd (x : MeanEnd) : cel x = [enc x.end_, enc x.trap, enc x.out, enc x.steps] := rfl
theorem unc_MeanEnd (d0 d1 d2 d3 : D) : unc (α := MeanEnd) [d0, d1, d2, d3] = (dec d0).bind fun x_end_ => (dec d1).bind fun x_trap => (dec d2).bind fun x_out => (dec d3).bind fun x_steps => some ⟨x_end_, x_trap, x_out, x_steps⟩ := rfl
theorem enc_MeanEnd (x : MeanEnd) : enc x = .g (cel x) := rfl
theorem dec_MeanEnd (ds : List D) : dec (α := MeanEnd) (.g ds) = unc ds := rfl
theorem eta_MeanEnd (x : MeanEnd) : (⟨x.end_, x.trap, x.out, x.steps⟩ : MeanEnd) = x := by cases x; rfl

structure MeanVal where
  kind : Int
  num : Int
  row : (List Int)
  deriving Inhabited
def uncMeanVal : List D → Option MeanVal
  | [d0, d1, d2] => (dec d0).bind fun x_kind => (dec d1).bind fun x_num => (dec d2).bind fun x_row => some ⟨x_kind, x_num, x_row⟩
  | _ => none
instance : Cel MeanVal where
  cel x := [enc x.kind, enc x.num, enc x.row]
  unc := uncMeanVal
  w := 3
  unc_cel x := by
    obtain ⟨x_kind, x_num, x_row⟩ := x
    simp only [uncMeanVal, Dat.dec_enc, Option.bind_some]
  cel_unc ds x h := by
    unfold uncMeanVal at h
    split at h
    · simp only [Option.bind_eq_some_iff, Option.some.injEq] at h
      obtain ⟨y_kind, h_kind, y_num, h_num, y_row, h_row, rfl⟩ := h
      have k_kind := Dat.enc_dec _ _ h_kind
      have k_num := Dat.enc_dec _ _ h_num
      have k_row := Dat.enc_dec _ _ h_row
      simp only [k_kind, k_num, k_row]
    · cases h
  len x := by simp only [List.length_cons, List.length_nil, List.length_append]
instance : Dat MeanVal := datOf
theorem w_MeanVal : Cel.w MeanVal = 3 := rfl
theorem cel_MeanVal (x : MeanVal) : cel x = [enc x.kind, enc x.num, enc x.row] := rfl
theorem unc_MeanVal (d0 d1 d2 : D) : unc (α := MeanVal) [d0, d1, d2] = (dec d0).bind fun x_kind => (dec d1).bind fun x_num => (dec d2).bind fun x_row => some ⟨x_kind, x_num, x_row⟩ := rfl
theorem enc_MeanVal (x : MeanVal) : enc x = .g (cel x) := rfl
theorem dec_MeanVal (ds : List D) : dec (α := MeanVal) (.g ds) = unc ds := rfl
theorem eta_MeanVal (x : MeanVal) : (⟨x.kind, x.num, x.row⟩ : MeanVal) = x := by cases x; rfl

structure L22Sig where
  mod : ByteArray
  name : ByteArray
  args : (List Int)
  t : Int
  deriving Inhabited
def uncL22Sig : List D → Option L22Sig
  | [d0, d1, d2, d3] => (dec d0).bind fun x_mod => (dec d1).bind fun x_name => (dec d2).bind fun x_args => (dec d3).bind fun x_t => some ⟨x_mod, x_name, x_args, x_t⟩
  | _ => none
instance : Cel L22Sig where
  cel x := [enc x.mod, enc x.name, enc x.args, enc x.t]
  unc := uncL22Sig
  w := 4
  unc_cel x := by
    obtain ⟨x_mod, x_name, x_args, x_t⟩ := x
    simp only [uncL22Sig, Dat.dec_enc, Option.bind_some]
  cel_unc ds x h := by
    unfold uncL22Sig at h
    split at h
    · simp only [Option.bind_eq_some_iff, Option.some.injEq] at h
      obtain ⟨y_mod, h_mod, y_name, h_name, y_args, h_args, y_t, h_t, rfl⟩ := h
      have k_mod := Dat.enc_dec _ _ h_mod
      have k_name := Dat.enc_dec _ _ h_name
      have k_args := Dat.enc_dec _ _ h_args
      have k_t := Dat.enc_dec _ _ h_t
      simp only [k_mod, k_name, k_args, k_t]
    · cases h
  len x := by simp only [List.length_cons, List.length_nil, List.length_append]
instance : Dat L22Sig := datOf
theorem w_L22Sig : Cel.w L22Sig = 4 := rfl
theorem cel_L22Sig (x : L22Sig) : cel x = [enc x.mod, enc x.name, enc x.args, enc x.t] := rfl
theorem unc_L22Sig (d0 d1 d2 d3 : D) : unc (α := L22Sig) [d0, d1, d2, d3] = (dec d0).bind fun x_mod => (dec d1).bind fun x_name => (dec d2).bind fun x_args => (dec d3).bind fun x_t => some ⟨x_mod, x_name, x_args, x_t⟩ := rfl
theorem enc_L22Sig (x : L22Sig) : enc x = .g (cel x) := rfl
theorem dec_L22Sig (ds : List D) : dec (α := L22Sig) (.g ds) = unc ds := rfl
theorem eta_L22Sig (x : L22Sig) : (⟨x.mod, x.name, x.args, x.t⟩ : L22Sig) = x := by cases x; rfl

structure Typer where
  m : TreeMod
  faces : (List TypeFace)
  deriving Inhabited
def uncTyper : List D → Option Typer
  | [d0, d1, d2, d3] => (unc [d0, d1, d2]).bind fun x_m => (dec d3).bind fun x_faces => some ⟨x_m, x_faces⟩
  | _ => none
instance : Cel Typer where
  cel x := cel x.m ++ [enc x.faces]
  unc := uncTyper
  w := 4
  unc_cel x := by
    obtain ⟨x_m, x_faces⟩ := x
    have h_m := Cel.unc_cel x_m
    have l_m := Cel.len x_m
    obtain ⟨e_m0, e_m1, e_m2, e_m⟩ := len3 l_m
    rw [e_m] at h_m
    simp only [e_m, List.cons_append, List.nil_append, List.append_nil]
    simp only [uncTyper, Dat.dec_enc, Option.bind_some, h_m]
  cel_unc ds x h := by
    unfold uncTyper at h
    split at h
    · simp only [Option.bind_eq_some_iff, Option.some.injEq] at h
      obtain ⟨y_m, h_m, y_faces, h_faces, rfl⟩ := h
      have k_m := Cel.cel_unc _ _ h_m
      have k_faces := Dat.enc_dec _ _ h_faces
      simp only [k_faces, ← k_m, List.cons_append, List.nil_append]
    · cases h
  len x := by simp only [List.length_cons, List.length_nil, List.length_append, Cel.len x.m, show Cel.w TreeMod = 3 from rfl]
instance : Dat Typer := datOf
theorem w_Typer : Cel.w Typer = 4 := rfl
theorem cel_Typer (x : Typer) : cel x = cel x.m ++ [enc x.faces] := rfl
theorem unc_Typer (d0 d1 d2 d3 : D) : unc (α := Typer) [d0, d1, d2, d3] = (unc [d0, d1, d2]).bind fun x_m => (dec d3).bind fun x_faces => some ⟨x_m, x_faces⟩ := rfl
theorem enc_Typer (x : Typer) : enc x = .g (cel x) := rfl
theorem dec_Typer (ds : List D) : dec (α := Typer) (.g ds) = unc ds := rfl
theorem eta_Typer (x : Typer) : (⟨x.m, x.faces⟩ : Typer) = x := by cases x; rfl

structure Named where
  name : ByteArray
  val : MeanVal
  deriving Inhabited
def uncNamed : List D → Option Named
  | [d0, d1, d2, d3] => (dec d0).bind fun x_name => (unc [d1, d2, d3]).bind fun x_val => some ⟨x_name, x_val⟩
  | _ => none
instance : Cel Named where
  cel x := [enc x.name] ++ cel x.val
  unc := uncNamed
  w := 4
  unc_cel x := by
    obtain ⟨x_name, x_val⟩ := x
    have h_val := Cel.unc_cel x_val
    have l_val := Cel.len x_val
    obtain ⟨e_val0, e_val1, e_val2, e_val⟩ := len3 l_val
    rw [e_val] at h_val
    simp only [e_val, List.cons_append, List.nil_append, List.append_nil]
    simp only [uncNamed, Dat.dec_enc, Option.bind_some, h_val]
  cel_unc ds x h := by
    unfold uncNamed at h
    split at h
    · simp only [Option.bind_eq_some_iff, Option.some.injEq] at h
      obtain ⟨y_name, h_name, y_val, h_val, rfl⟩ := h
      have k_name := Dat.enc_dec _ _ h_name
      have k_val := Cel.cel_unc _ _ h_val
      simp only [k_name, ← k_val, List.cons_append, List.nil_append]
    · cases h
  len x := by simp only [List.length_cons, List.length_nil, List.length_append, Cel.len x.val, show Cel.w MeanVal = 3 from rfl]
instance : Dat Named := datOf
theorem w_Named : Cel.w Named = 4 := rfl
theorem cel_Named (x : Named) : cel x = [enc x.name] ++ cel x.val := rfl
theorem unc_Named (d0 d1 d2 d3 : D) : unc (α := Named) [d0, d1, d2, d3] = (dec d0).bind fun x_name => (unc [d1, d2, d3]).bind fun x_val => some ⟨x_name, x_val⟩ := rfl
theorem enc_Named (x : Named) : enc x = .g (cel x) := rfl
theorem dec_Named (ds : List D) : dec (α := Named) (.g ds) = unc ds := rfl
theorem eta_Named (x : Named) : (⟨x.name, x.val⟩ : Named) = x := by cases x; rfl

set_option linter.defProp false
def tyS := (And.intro (And.intro (And.intro (And.intro (And.intro (And.intro @all_TreeArg @w_TreeArg) (And.intro @cel_TreeArg (And.intro @unc_TreeArg @enc_TreeArg))) (And.intro (And.intro @dec_TreeArg @eta_TreeArg) (And.intro @w_TreeExpr (And.intro @cel_TreeExpr @unc_TreeExpr)))) (And.intro (And.intro (And.intro @enc_TreeExpr @dec_TreeExpr) (And.intro @eta_TreeExpr (And.intro @w_TreeFun @cel_TreeFun))) (And.intro (And.intro @unc_TreeFun @enc_TreeFun) (And.intro @dec_TreeFun (And.intro @eta_TreeFun @w_TreeMod))))) (And.intro (And.intro (And.intro (And.intro @cel_TreeMod @unc_TreeMod) (And.intro @enc_TreeMod (And.intro @dec_TreeMod @eta_TreeMod))) (And.intro (And.intro @w_MeanMod @cel_MeanMod) (And.intro @unc_MeanMod (And.intro @enc_MeanMod @dec_MeanMod)))) (And.intro (And.intro (And.intro @eta_MeanMod @w_FaceSig) (And.intro @cel_FaceSig (And.intro @unc_FaceSig @enc_FaceSig))) (And.intro (And.intro @dec_FaceSig @eta_FaceSig) (And.intro @w_TypeFace (And.intro @cel_TypeFace @unc_TypeFace)))))) (And.intro (And.intro (And.intro (And.intro (And.intro @enc_TypeFace @dec_TypeFace) (And.intro @eta_TypeFace (And.intro @all_TypeFault @w_TypeFault))) (And.intro (And.intro @cel_TypeFault @unc_TypeFault) (And.intro @enc_TypeFault (And.intro @dec_TypeFault @eta_TypeFault)))) (And.intro (And.intro (And.intro @w_MeanEnd @cel_MeanEnd) (And.intro @unc_MeanEnd (And.intro @enc_MeanEnd @dec_MeanEnd))) (And.intro (And.intro @eta_MeanEnd @w_MeanVal) (And.intro @cel_MeanVal (And.intro @unc_MeanVal @enc_MeanVal))))) (And.intro (And.intro (And.intro (And.intro @dec_MeanVal @eta_MeanVal) (And.intro @w_L22Sig (And.intro @cel_L22Sig @unc_L22Sig))) (And.intro (And.intro @enc_L22Sig @dec_L22Sig) (And.intro @eta_L22Sig (And.intro @w_Typer @cel_Typer)))) (And.intro (And.intro (And.intro @unc_Typer @enc_Typer) (And.intro @dec_Typer (And.intro @eta_Typer @w_Named))) (And.intro (And.intro @cel_Named @unc_Named) (And.intro @enc_Named (And.intro @dec_Named @eta_Named)))))))
end Go.Fs
