/- A part of the proof: an evaluator of the program's code over plain data, proved sound, and walks of the program's functions by it. No conditions beyond those in the theorems. -/
import Derived.Test.YtbgbnmghhmfihaaLawIp8
set_option linter.unusedVariables false
set_option linter.defProp false
set_option maxRecDepth 20000
/-! What the walks rewrite by, tied together: one name each. -/
namespace Go.Fs
def bW := (And.intro (And.intro (And.intro (And.intro (And.intro (And.intro (And.intro (And.intro @Go.Fs.awp_seq @Go.Fs.awp_region) (And.intro @Go.Fs.awp_cond @Go.Fs.awp_block)) (And.intro (And.intro @Go.Fs.awp_exit @Go.Fs.awp_ret) (And.intro @Go.Fs.awp_skip (And.intro @Go.Fs.awpOps.eq_1 @Go.Fs.awpOps.eq_2)))) (And.intro (And.intro (And.intro @Go.Fs.awpG.eq_1 @Go.Fs.awpOp.eq_1) (And.intro @Go.Fs.dstAt.eq_1 (And.intro @Go.Fs.valW.eq_1 @Go.Fs.valK.eq_1))) (And.intro (And.intro @Go.Fs.putH.eq_1 @Go.Fs.heapK.eq_1) (And.intro @Go.Fs.storeK.eq_1 (And.intro @Go.Fs.storeW.eq_1 @Go.Fs.nilK.eq_1))))) (And.intro (And.intro (And.intro (And.intro @Go.Fs.nilK.eq_2 @Go.Fs.thenF.eq_1) (And.intro @Go.Fs.compK.eq_1 (And.intro @Go.Fs.ownK.eq_1 @Go.Fs.sharedK.eq_1))) (And.intro (And.intro @Go.Fs.sharedK2.eq_1 @Go.Fs.nestK.eq_1) (And.intro @Go.Fs.ioK.eq_1 (And.intro @Go.Fs.ioK2.eq_1 @Go.Fs.ioK3.eq_1)))) (And.intro (And.intro (And.intro @Go.Fs.valOp.eq_1 @Go.Fs.callB.eq_1) (And.intro @Go.Fs.callW.eq_1 (And.intro @Go.Fs.capsOK.eq_1 @Go.Fs.capsOK.eq_2))) (And.intro (And.intro @Go.Fs.capsOK.eq_3 @Go.Fs.capsOK.eq_4) (And.intro @Go.Fs.St.ev.eq_1 (And.intro @Go.Fs.St.ev.eq_2 @Go.Fs.St.ev.eq_3)))))) (And.intro (And.intro (And.intro (And.intro (And.intro @Go.Fs.St.ev.eq_4 @Go.Fs.putK.eq_1) (And.intro @Go.Fs.putK.eq_2 @Go.Fs.inSt_eq)) (And.intro (And.intro @Go.Fs.insL.eq_1 @Go.Fs.insL.eq_2) (And.intro @Go.Fs.inHeap.eq_1 (And.intro @Go.Fs.inHeap.eq_2 @Go.Fs.keyIn_eq)))) (And.intro (And.intro (And.intro @Go.Fs.ovr_eq @Go.Fs.inAV.eq_1) (And.intro @Go.Fs.inAV.eq_2 (And.intro @Go.Fs.inAV.eq_3 @Go.Fs.fixZ.eq_1))) (And.intro (And.intro @Go.Fs.fixZ.eq_2 @Go.Fs.zargs.eq_1) (And.intro @Go.Fs.zargs.eq_2 (And.intro @Go.Fs.zargs.eq_3 @Go.Fs.keyOf.eq_1))))) (And.intro (And.intro (And.intro (And.intro @Go.Fs.keyOf.eq_2 @Go.Fs.freeAll.eq_1) (And.intro @Go.Fs.freeAll.eq_2 (And.intro @Go.Fs.apart.eq_1 @Go.Fs.nodupB.eq_1))) (And.intro (And.intro @Go.Fs.nodupB.eq_2 @Go.Fs.OkO_some) (And.intro @Go.Fs.OkO_none (And.intro @Go.Fs.OkO_map @Go.Fs.OkO_bind)))) (And.intro (And.intro (And.intro @Go.Fs.OkO_ite @Go.Fs.upd_at) (And.intro @Go.Fs.thenS_normal (And.intro @Go.Fs.thenS_exit @Go.Fs.thenS_ret))) (And.intro (And.intro @Go.Fs.blkS_normal @Go.Fs.blkS_exit) (And.intro @Go.Fs.blkS_ret (And.intro @Go.Fs.EndA_normal @Go.Fs.EndA_ret))))))) (And.intro (And.intro (And.intro (And.intro (And.intro (And.intro @Go.Fs.constAV_i @Go.Fs.constAV_b) (And.intro @Go.Fs.constAV_s @Go.Fs.constAV_z)) (And.intro (And.intro @Go.Fs.constAV_n @Go.Fs.litS.eq_1) (And.intro @Go.Fs.litS.eq_2 (And.intro @Go.Fs.opBin.eq_1 @Go.Fs.opBin.eq_2)))) (And.intro (And.intro (And.intro @Go.Fs.opBin.eq_3 @Go.Fs.opBin.eq_4) (And.intro @Go.Fs.opUn.eq_1 (And.intro @Go.Fs.opUn.eq_2 @Go.Fs.opUn.eq_3))) (And.intro (And.intro @Go.Fs.opExtract.eq_1 @Go.Fs.opExtract.eq_2) (And.intro @Go.Fs.binD.eq_1 (And.intro @Go.Fs.binD.eq_2 @Go.Fs.binD.eq_3))))) (And.intro (And.intro (And.intro (And.intro @Go.Fs.binD.eq_4 @Go.Fs.binD.eq_5) (And.intro @Go.Fs.binD.eq_6 (And.intro @Go.Fs.binD.eq_7 @Go.Fs.binD.eq_8))) (And.intro (And.intro @Go.Fs.binD.eq_9 @Go.Fs.binD.eq_10) (And.intro @Go.Fs.binD.eq_11 (And.intro @Go.Fs.binD.eq_12 @Go.Fs.binD.eq_13)))) (And.intro (And.intro (And.intro @Go.Fs.binD.eq_14 @Go.Fs.binD.eq_15) (And.intro @Go.Fs.binD.eq_16 (And.intro @Go.Fs.binD.eq_17 @Go.Fs.binD.eq_18))) (And.intro (And.intro @Go.Fs.binD.eq_19 @Go.Fs.binD.eq_20) (And.intro @Go.Fs.binD.eq_21 (And.intro @Go.Fs.binD.eq_22 @Go.Fs.binD.eq_23)))))) (And.intro (And.intro (And.intro (And.intro (And.intro @Go.Fs.binD.eq_24 @Go.Fs.opLen.eq_1) (And.intro @Go.Fs.opLen.eq_2 @Go.Fs.opLen.eq_3)) (And.intro (And.intro @Go.Fs.opLen.eq_4 @Go.Fs.opLen.eq_5) (And.intro @Go.Fs.opLen.eq_6 (And.intro @Go.Fs.opIndex.eq_1 @Go.Fs.opField.eq_1)))) (And.intro (And.intro (And.intro @Go.Fs.opLoad.eq_1 @Go.Fs.opStore.eq_1) (And.intro @Go.Fs.opBox.eq_1 (And.intro @Go.Fs.opAlloc.eq_1 @Go.Fs.opMake.eq_1))) (And.intro (And.intro @Go.Fs.opAppend.eq_1 @Go.Fs.opBuildSlice.eq_1) (And.intro @Go.Fs.opBuild.eq_1 (And.intro @Go.Fs.opSlice.eq_1 @Go.Fs.opSlice.eq_2))))) (And.intro (And.intro (And.intro (And.intro @Go.Fs.srcA.eq_1 @Go.Fs.srcA.eq_2) (And.intro @Go.Fs.srcA.eq_3 (And.intro @Go.Fs.srcA.eq_4 @Go.Fs.dem1.eq_1))) (And.intro (And.intro @Go.Fs.demote.eq_1 @Go.Fs.demote.eq_2) (And.intro @Go.Fs.demote1.eq_1 (And.intro @Go.Fs.demote1.eq_2 @Go.Fs.demoteL.eq_1)))) (And.intro (And.intro (And.intro @Go.Fs.demoteL.eq_2 @Go.Fs.demAll.eq_1) (And.intro @Go.Fs.demAll.eq_2 (And.intro @Go.Fs.TK.agg.eq_1 @Go.Fs.TK.agg.eq_2))) (And.intro (And.intro @Go.Fs.TK.agg.eq_3 @Go.Fs.pack.eq_1) (And.intro @Go.Fs.cellsA.eq_1 (And.intro @Go.Fs.cellsA.eq_2 @Go.Fs.oneA.eq_1)))))))) (And.intro (And.intro (And.intro (And.intro (And.intro (And.intro (And.intro @Go.Fs.oneA.eq_2 @Go.Fs.oneA.eq_3) (And.intro @Go.Fs.oneA.eq_4 @Go.Fs.oneA.eq_5)) (And.intro (And.intro @Go.Fs.oneA.eq_6 @Go.Fs.oneA.eq_7) (And.intro @Go.Fs.oneA.eq_8 (And.intro @Go.Fs.oneA.eq_9 @Go.Fs.moveCs.eq_1)))) (And.intro (And.intro (And.intro @Go.Fs.moveCs.eq_2 @Go.Fs.moveC.eq_1) (And.intro @Go.Fs.moveC.eq_2 (And.intro @Go.Fs.moveC.eq_3 @Go.Fs.moveC.eq_4))) (And.intro (And.intro @Go.Fs.moveV.eq_1 @Go.Fs.moveV.eq_2) (And.intro @Go.Fs.moveVs.eq_1 (And.intro @Go.Fs.moveVs.eq_2 @Go.Fs.scal.eq_1))))) (And.intro (And.intro (And.intro (And.intro @Go.Fs.scal.eq_2 @Go.Fs.scal.eq_3) (And.intro @Go.Fs.scal.eq_4 (And.intro @Go.Fs.scal.eq_5 @Go.Fs.packD.eq_1))) (And.intro (And.intro @Go.Fs.packD.eq_2 @Go.Fs.outR.eq_1) (And.intro @Go.Fs.resL.eq_1 (And.intro @Go.Fs.resL.eq_2 @Go.Fs.resL.eq_3)))) (And.intro (And.intro (And.intro @Go.Fs.borL.eq_1 @Go.Fs.borL.eq_2) (And.intro @Go.Fs.bor.eq_1 (And.intro @Go.Fs.bor.eq_2 @Go.Fs.bor.eq_3))) (And.intro (And.intro @Go.Fs.borB.eq_1 @Go.Fs.borB.eq_2) (And.intro @Go.Fs.borC.eq_1 (And.intro @Go.Fs.borC.eq_2 @Go.Fs.borC.eq_3)))))) (And.intro (And.intro (And.intro (And.intro (And.intro @Go.Fs.borC.eq_4 @Go.Fs.borC.eq_5) (And.intro @Go.Fs.borCs.eq_1 @Go.Fs.borCs.eq_2)) (And.intro (And.intro @Go.Fs.borBs.eq_1 @Go.Fs.borBs.eq_2) (And.intro @Go.Fs.keyA.eq_1 (And.intro @Go.Fs.keyA.eq_2 @Go.Fs.keyA.eq_3)))) (And.intro (And.intro (And.intro @Go.Fs.keyB.eq_1 @Go.Fs.keyB.eq_2) (And.intro @Go.Fs.keyC.eq_1 (And.intro @Go.Fs.keyC.eq_2 @Go.Fs.keyC.eq_3))) (And.intro (And.intro @Go.Fs.ioCs.eq_1 @Go.Fs.ioCs.eq_2) (And.intro @Go.Fs.ioCs.eq_3 (And.intro @Go.Fs.ioCs.eq_4 @Go.Fs.ioObs.eq_1))))) (And.intro (And.intro (And.intro (And.intro @Go.Fs.ioObs.eq_2 @Go.Fs.ioObs.eq_3) (And.intro @Go.Fs.ioObs.eq_4 (And.intro @Go.Fs.ioD.eq_1 @Go.Fs.ioD.eq_2))) (And.intro (And.intro @Go.Fs.adObs.eq_1 @Go.Fs.adObs.eq_2) (And.intro @Go.Fs.adObs.eq_3 (And.intro @Go.Fs.adCells.eq_1 @Go.Fs.adCells.eq_2)))) (And.intro (And.intro (And.intro @Go.Fs.adCells.eq_3 @Go.Fs.partsD.eq_1) (And.intro @Go.Fs.partsD.eq_2 (And.intro @Go.Fs.cellsD.eq_1 @Go.Fs.cellsD.eq_2))) (And.intro (And.intro @Go.Fs.retAV.eq_1 @Go.Fs.retAV.eq_2) (And.intro @Go.Fs.oneAV.eq_1 (And.intro @Go.Fs.oneAV.eq_2 @Go.Fs.tupAV.eq_1))))))) (And.intro (And.intro (And.intro (And.intro (And.intro (And.intro @Go.Fs.tupAV.eq_2 @Go.Fs.updL.eq_1) (And.intro @Go.Fs.mCells.eq_1 @Go.Fs.mCells.eq_2)) (And.intro (And.intro @Go.Fs.mCell.eq_1 @Go.Fs.mCell.eq_2) (And.intro @Go.Fs.frzL.eq_1 (And.intro @Go.Fs.frzL.eq_2 @Go.Fs.frz1.eq_1)))) (And.intro (And.intro (And.intro @Go.Fs.stL_n @Go.Fs.stL_env) (And.intro @Go.Fs.stL_heap (And.intro @Go.Fs.envL_cons @Go.Fs.envL_nil))) (And.intro (And.intro @Go.Fs.obL_cons @Go.Fs.obL_nil) (And.intro @List.map_cons.{0,0} (And.intro @List.map_nil.{0,0} @List.drop_zero.{0}))))) (And.intro (And.intro (And.intro (And.intro @List.drop_succ_cons.{0} @List.take_zero.{0}) (And.intro @List.take_succ_cons.{0} (And.intro @List.take_nil.{0} @List.drop_nil.{0}))) (And.intro (And.intro @List.headD_cons.{0} @List.length_cons.{0}) (And.intro @List.length_nil.{0} (And.intro @List.foldr_cons.{0,0} @List.foldr_nil.{0,0})))) (And.intro (And.intro (And.intro @List.flatMap_cons.{0,0} @List.flatMap_nil.{0,0}) (And.intro @List.append_nil.{0} (And.intro @List.nil_append.{0} @List.cons_append.{0}))) (And.intro (And.intro @List.all_cons.{0} @List.all_nil.{0}) (And.intro @List.contains_cons.{0} (And.intro @List.contains_nil.{0} @List.getElem?_cons_zero.{0})))))) (And.intro (And.intro (And.intro (And.intro (And.intro @List.getElem?_cons_succ.{0} @List.getElem?_nil.{0}) (And.intro @List.zip_cons_cons.{0,0} @List.zip_nil_left.{0,0})) (And.intro (And.intro @List.getD_cons_zero.{0} @List.getD_cons_succ.{0}) (And.intro @List.isEmpty_nil.{0} (And.intro @Go.Fs.range_0 @Go.Fs.range_1)))) (And.intro (And.intro (And.intro @Go.Fs.range_2 @Go.Fs.chunk_0) (And.intro @Go.Fs.chunk_1 (And.intro @Go.Fs.chunk_2 @beq_self_eq_true.{0}))) (And.intro (And.intro @true_or @or_true) (And.intro @false_or (And.intro @or_false @Nat.zero_add))))) (And.intro (And.intro (And.intro (And.intro @Nat.add_zero @Nat.le_refl) (And.intro @true_and (And.intro @and_true @and_self))) (And.intro (And.intro @Bool.and_true @Bool.true_and) (And.intro @Bool.and_false (And.intro @Bool.false_and @Bool.and_self)))) (And.intro (And.intro (And.intro @Bool.or_false @Bool.or_true) (And.intro @Bool.not_true (And.intro @Bool.not_false @Option.bind_some.{0,0}))) (And.intro (And.intro @Option.map_some.{0,0} @Option.getD_some.{0}) (And.intro @Option.map_none.{0,0} (And.intro @Option.bind_none.{0,0} @Int.toNat_natCast)))))))))
def bK := (And.intro (And.intro (And.intro (And.intro (And.intro (And.intro @Go.Fs.Back.eq_1 @Go.Fs.wkS_stL) (And.intro @Go.Fs.canon.eq_1 @Go.Fs.canon2.eq_1)) (And.intro (And.intro @Go.Fs.canonGo.eq_1 @Go.Fs.canonGo.eq_2) (And.intro @Go.Fs.keysA.eq_1 (And.intro @Go.Fs.keysA.eq_2 @Go.Fs.keysA.eq_3)))) (And.intro (And.intro (And.intro @Go.Fs.keysA.eq_4 @Go.Fs.keysC.eq_1) (And.intro @Go.Fs.keysC.eq_2 (And.intro @Go.Fs.keysC.eq_3 @Go.Fs.keysC.eq_4))) (And.intro (And.intro @Go.Fs.keysC.eq_5 @Go.Fs.keysC.eq_6) (And.intro @Go.Fs.keysO.eq_1 (And.intro @Go.Fs.keysO.eq_2 @Go.Fs.obM.eq_1))))) (And.intro (And.intro (And.intro (And.intro @Go.Fs.obM.eq_2 @Go.Fs.mapOb.eq_1) (And.intro @Go.Fs.mapOb.eq_2 @Go.Fs.mapOb.eq_3)) (And.intro (And.intro @Go.Fs.mapOb.eq_4 @Go.Fs.renOK.eq_1) (And.intro @Go.Fs.nodupB.eq_1 (And.intro @Go.Fs.nodupB.eq_2 @Go.Fs.fixAA.eq_1)))) (And.intro (And.intro (And.intro @Go.Fs.fixAA.eq_2 @Go.Fs.fixA.eq_1) (And.intro @Go.Fs.fixA.eq_2 (And.intro @Go.Fs.fixA.eq_3 @Go.Fs.fixA.eq_4))) (And.intro (And.intro @Go.Fs.fixA.eq_5 @Go.Fs.fixA.eq_6) (And.intro @Go.Fs.mapA.eq_1 (And.intro @Go.Fs.mapA.eq_2 @Go.Fs.mapA.eq_3)))))) (And.intro (And.intro (And.intro (And.intro (And.intro @Go.Fs.mapA.eq_4 @Go.Fs.mapA.eq_5) (And.intro @Go.Fs.mapA.eq_6 @Go.Fs.mapA.eq_7)) (And.intro (And.intro @Go.Fs.mapA.eq_8 @Go.Fs.mapA.eq_9) (And.intro @Go.Fs.mapA.eq_10 (And.intro @Go.Fs.mapA.eq_11 @Go.Fs.mapA.eq_12)))) (And.intro (And.intro (And.intro @Go.Fs.mapL.eq_1 @Go.Fs.mapL.eq_2) (And.intro @List.flatMap_cons.{0,0} (And.intro @List.flatMap_nil.{0,0} @List.append_nil.{0}))) (And.intro (And.intro @List.nil_append.{0} @List.cons_append.{0}) (And.intro @List.any_nil.{0} (And.intro @List.any_cons.{0} @List.map_cons.{0,0}))))) (And.intro (And.intro (And.intro (And.intro @List.map_nil.{0,0} @List.all_nil.{0}) (And.intro @List.all_cons.{0} (And.intro @List.contains_cons.{0} @List.contains_nil.{0}))) (And.intro (And.intro @List.lookup_cons.{0,0} @List.lookup_nil.{0,0}) (And.intro @Go.Fs.upd_at (And.intro @Bool.or_false @Bool.or_true)))) (And.intro (And.intro (And.intro @Bool.true_or @Bool.false_or) (And.intro @Bool.not_false (And.intro @Bool.not_true @Bool.false_eq_true))) (And.intro (And.intro @Bool.and_true @Bool.true_and) (And.intro @and_true (And.intro @true_and @and_self)))))))
def bQ := (And.intro (And.intro @Go.Fs.awpQs.eq_1 (And.intro @Go.Fs.awpQs.eq_2 @Go.Fs.contQ.eq_1)) (And.intro (And.intro @Go.Fs.qK.eq_1 @Go.Fs.qD.eq_1) (And.intro @Go.Fs.qG.eq_1 @Go.Fs.qOp.eq_1)))
end Go.Fs

set_option linter.unusedVariables false
set_option linter.unusedSimpArgs false
set_option maxRecDepth 20000
set_option maxHeartbeats 2000000
namespace Go.Fs.Sr
open Go.Proofs.Try

theorem f48_ok {S : Nat → Option Summ} (hS : SumOK prog S) (ds : List D) (r : D) (hr : szP [.i] ds = some r) : FnOK prog 48 (ds.map .d) { ret := r } := by
  obtain ⟨xs, n, rfl, h1, h2, h3, h4, h5, rfl⟩ := szP_inv hr
  clear hr
  have hsz : ([.i] : List Sh).length = 1 := rfl
  rw [hsz, wt0 h1 (by decide), Nat.add_zero]
  refine fnOK_awp (A := ⟨tab, S, .x⟩) tab_ok hS mixed func48 rfl rfl rfl rfl (by show 2 ≤ 12; decide) rfl ?_
  refine seqK fun K hK => ?_
  simp only [bW, ↓splitB_true, ↓splitB_false, nilCmp, opConv, eq_self, if_true, if_false, Nat.reduceEqDiff, reduceCtorEq, ↓reduceIte, Nat.reduceLT, Nat.reduceAdd, Nat.reduceMul, Nat.reduceSub, Nat.reduceLeDiff, Nat.reduceBEq, Int.reduceEq, Int.reduceNeg, tk, ntmps48, results48]
  refine hK _ ?_; clear hK K
  refine seqK fun K hK => ?_
  simp only [bW, ↓splitB_true, ↓splitB_false, nilCmp, opConv, eq_self, if_true, if_false, Nat.reduceEqDiff, reduceCtorEq, ↓reduceIte, Nat.reduceLT, Nat.reduceAdd, Nat.reduceMul, Nat.reduceSub, Nat.reduceLeDiff, Nat.reduceBEq, Int.reduceEq, Int.reduceNeg, tk, ntmps48, results48]
  simp (disch := omega) only [wrap64]
  refine hK _ ?_; clear hK K
  refine seqK fun K hK => ?_
  simp only [bW, ↓splitB_true, ↓splitB_false, nilCmp, opConv, eq_self, if_true, if_false, Nat.reduceEqDiff, reduceCtorEq, ↓reduceIte, Nat.reduceLT, Nat.reduceAdd, Nat.reduceMul, Nat.reduceSub, Nat.reduceLeDiff, Nat.reduceBEq, Int.reduceEq, Int.reduceNeg, tk, ntmps48, results48]
  refine splitB_intro (fun hb => ?_) (fun hb => hK _ ?_) <;> clear hK K
  · have hb := of_decide_eq_true hb
    rw [less_neg (by omega)]
  have hb := of_decide_eq_false hb
  simp only [bW, ↓splitB_true, ↓splitB_false, nilCmp, opConv, eq_self, if_true, if_false, Nat.reduceEqDiff, reduceCtorEq, ↓reduceIte, Nat.reduceLT, Nat.reduceAdd, Nat.reduceMul, Nat.reduceSub, Nat.reduceLeDiff, Nat.reduceBEq, Int.reduceEq, Int.reduceNeg, tk, ntmps48, results48]
  simp only [Option.some.injEq, Ret.mk.injEq, List.cons.injEq, Prod.mk.injEq, AV.d.injEq, D.i.injEq, D.b.injEq, D.s.injEq, true_and, and_true]
  rw [less_pos (by omega)]

theorem f123_ok {S : Nat → Option Summ} (hS : SumOK prog S) (ds : List D) (r : D) (hr : szP ins2 ds = some r) : FnOK prog 123 (ds.map .d) { ret := r } := by
  obtain ⟨xs, n, rfl, h1, h2, h3, h4, h5, rfl⟩ := szP_inv hr
  clear hr
  have hsz : (ins2 : List Sh).length = 2 := rfl
  rw [hsz, wt0 h1 (by decide), Nat.add_zero]
  refine fnOK_awp (A := ⟨tab, S, .x⟩) tab_ok hS mixed func123 rfl rfl rfl rfl (by show 2 ≤ 12; decide) rfl ?_
  refine seqK fun K hK => ?_
  simp only [bW, ↓splitB_true, ↓splitB_false, nilCmp, opConv, eq_self, if_true, if_false, Nat.reduceEqDiff, reduceCtorEq, ↓reduceIte, Nat.reduceLT, Nat.reduceAdd, Nat.reduceMul, Nat.reduceSub, Nat.reduceLeDiff, Nat.reduceBEq, Int.reduceEq, Int.reduceNeg, tk, ntmps123, results123]
  refine hK _ ?_; clear hK K
  refine seqK fun K hK => ?_
  simp only [bW, ↓splitB_true, ↓splitB_false, nilCmp, opConv, eq_self, if_true, if_false, Nat.reduceEqDiff, reduceCtorEq, ↓reduceIte, Nat.reduceLT, Nat.reduceAdd, Nat.reduceMul, Nat.reduceSub, Nat.reduceLeDiff, Nat.reduceBEq, Int.reduceEq, Int.reduceNeg, tk, ntmps123, results123]
  simp (disch := omega) only [wrap64]
  refine hK _ ?_; clear hK K
  refine seqK fun K hK => ?_
  simp only [bW, ↓splitB_true, ↓splitB_false, nilCmp, opConv, eq_self, if_true, if_false, Nat.reduceEqDiff, reduceCtorEq, ↓reduceIte, Nat.reduceLT, Nat.reduceAdd, Nat.reduceMul, Nat.reduceSub, Nat.reduceLeDiff, Nat.reduceBEq, Int.reduceEq, Int.reduceNeg, tk, ntmps123, results123]
  refine splitB_intro (fun hb => ?_) (fun hb => hK _ ?_) <;> clear hK K
  · have hb := of_decide_eq_true hb
    rw [less_neg (by omega)]
  have hb := of_decide_eq_false hb
  simp only [bW, ↓splitB_true, ↓splitB_false, nilCmp, opConv, eq_self, if_true, if_false, Nat.reduceEqDiff, reduceCtorEq, ↓reduceIte, Nat.reduceLT, Nat.reduceAdd, Nat.reduceMul, Nat.reduceSub, Nat.reduceLeDiff, Nat.reduceBEq, Int.reduceEq, Int.reduceNeg, tk, ntmps123, results123]
  simp only [Option.some.injEq, Ret.mk.injEq, List.cons.injEq, Prod.mk.injEq, AV.d.injEq, D.i.injEq, D.b.injEq, D.s.injEq, true_and, and_true]
  rw [less_pos (by omega)]

theorem f84_ok {S : Nat → Option Summ} (hS : SumOK prog S) (s48 : S 48 = some (.own (szP [.i]))) (s123 : S 123 = some (.own (szP ins2))) (ds : List D) (r : D) (hr : szG lfun ds = some r) : FnOK prog 84 (ds.map .d) { ret := r } := by
  obtain ⟨xs, n, rfl, h1, h2, h4, h5, rfl⟩ := szG_inv hr
  clear hr
  obtain ⟨ct1, qt1, rfl, et1, h1⟩ := shL_cons h1
  obtain ⟨ct2, qt2, rfl, et2, h1⟩ := shL_cons h1
  obtain ⟨ct3, qt3, rfl, et3, h1⟩ := shL_cons h1
  obtain ⟨ct4, qt4, rfl, et4, h1⟩ := shL_cons h1
  obtain ⟨ct5, qt5, rfl, et5, h1⟩ := shL_cons h1
  obtain ⟨ct6, qt6, rfl, et6, h1⟩ := shL_cons h1
  obtain rfl := shL_nil h1
  obtain ⟨t1, rfl⟩ := shD_s et1
  obtain ⟨t2, rfl⟩ := shD_s et2
  obtain ⟨zt3, t3, rfl, hzt3, et3⟩ := shD_l2 et3
  obtain rfl : zt3 = 1 := hzt3
  obtain ⟨t4, rfl⟩ := shD_i et4
  obtain ⟨t5, rfl⟩ := shD_i et5
  obtain ⟨zt6, t6, rfl, hzt6, et6⟩ := shD_l2 et6
  obtain rfl : zt6 = 2 := hzt6
  simp only [okL_cons, okL_nil, okD_s, okD_l, okD_i, okD_b, and_true, true_and] at h2
  obtain ⟨kt1, kt2, ⟨kt3, kt3'⟩, kt4, kt5, ⟨kt6, kt6'⟩⟩ := h2
  simp only [wtL, wt, wt_i, wt_b]
  refine fnOK_awp (A := ⟨tab, S, .x⟩) tab_ok hS mixed func84 rfl rfl rfl rfl (by show 2 ≤ 32; decide) rfl ?_
  refine seqK fun K hK => ?_
  simp only [bW, ↓splitB_true, ↓splitB_false, nilCmp, opConv, eq_self, if_true, if_false, Nat.reduceEqDiff, reduceCtorEq, ↓reduceIte, Nat.reduceLT, Nat.reduceAdd, Nat.reduceMul, Nat.reduceSub, Nat.reduceLeDiff, Nat.reduceBEq, Int.reduceEq, Int.reduceNeg, tk, ntmps84, results84, s123, s48]
  refine hK _ ?_; clear hK K
  refine seqK fun K hK => ?_
  simp only [bW, ↓splitB_true, ↓splitB_false, nilCmp, opConv, eq_self, if_true, if_false, Nat.reduceEqDiff, reduceCtorEq, ↓reduceIte, Nat.reduceLT, Nat.reduceAdd, Nat.reduceMul, Nat.reduceSub, Nat.reduceLeDiff, Nat.reduceBEq, Int.reduceEq, Int.reduceNeg, tk, ntmps84, results84, s123, s48]
  simp (disch := omega) only [wrap64]
  refine hK _ ?_; clear hK K
  refine seqK fun K hK => ?_
  simp only [bW, ↓splitB_true, ↓splitB_false, nilCmp, opConv, eq_self, if_true, if_false, Nat.reduceEqDiff, reduceCtorEq, ↓reduceIte, Nat.reduceLT, Nat.reduceAdd, Nat.reduceMul, Nat.reduceSub, Nat.reduceLeDiff, Nat.reduceBEq, Int.reduceEq, Int.reduceNeg, tk, ntmps84, results84, s123, s48]
  refine splitB_intro (fun hb => ?_) (fun hb => hK _ ?_) <;> clear hK K
  · have hb := of_decide_eq_true hb
    rw [less_neg (by omega)]
  have hb := of_decide_eq_false hb
  refine seqK fun K hK => ?_
  simp only [bW, ↓splitB_true, ↓splitB_false, nilCmp, opConv, eq_self, if_true, if_false, Nat.reduceEqDiff, reduceCtorEq, ↓reduceIte, Nat.reduceLT, Nat.reduceAdd, Nat.reduceMul, Nat.reduceSub, Nat.reduceLeDiff, Nat.reduceBEq, Int.reduceEq, Int.reduceNeg, tk, ntmps84, results84, s123, s48]
  simp (disch := omega) only [wrap64]
  refine hK _ ?_; clear hK K
  refine seqK fun K hK => ?_
  simp only [bW, ↓splitB_true, ↓splitB_false, nilCmp, opConv, eq_self, if_true, if_false, Nat.reduceEqDiff, reduceCtorEq, ↓reduceIte, Nat.reduceLT, Nat.reduceAdd, Nat.reduceMul, Nat.reduceSub, Nat.reduceLeDiff, Nat.reduceBEq, Int.reduceEq, Int.reduceNeg, tk, ntmps84, results84, s123, s48]
  refine splitB_intro (fun hb => ?_) (fun hb => hK _ ?_) <;> clear hK K
  · have hb := of_decide_eq_true hb
    rw [less_neg (by omega)]
  have hb := of_decide_eq_false hb
  refine seqK fun K hK => ?_
  simp only [bW, ↓splitB_true, ↓splitB_false, nilCmp, opConv, eq_self, if_true, if_false, Nat.reduceEqDiff, reduceCtorEq, ↓reduceIte, Nat.reduceLT, Nat.reduceAdd, Nat.reduceMul, Nat.reduceSub, Nat.reduceLeDiff, Nat.reduceBEq, Int.reduceEq, Int.reduceNeg, tk, ntmps84, results84, s123, s48]
  refine OkO_szP rfl et3 kt3' kt3 (by omega) (by omega) ?_
  simp only [bW, ↓splitB_true, ↓splitB_false, nilCmp, opConv, eq_self, if_true, if_false, Nat.reduceEqDiff, reduceCtorEq, ↓reduceIte, Nat.reduceLT, Nat.reduceAdd, Nat.reduceMul, Nat.reduceSub, Nat.reduceLeDiff, Nat.reduceBEq, Int.reduceEq, Int.reduceNeg, tk, ntmps84, results84, s123, s48]
  refine hK _ ?_; clear hK K
  refine seqK fun K hK => ?_
  simp only [bW, ↓splitB_true, ↓splitB_false, nilCmp, opConv, eq_self, if_true, if_false, Nat.reduceEqDiff, reduceCtorEq, ↓reduceIte, Nat.reduceLT, Nat.reduceAdd, Nat.reduceMul, Nat.reduceSub, Nat.reduceLeDiff, Nat.reduceBEq, Int.reduceEq, Int.reduceNeg, tk, ntmps84, results84, s123, s48]
  refine splitB_intro (fun hb => ?_) (fun hb => hK _ ?_) <;> clear hK K
  · have hb := of_decide_eq_true hb
    unfold less at hb
    split at hb
    · rw [less_neg (by omega)]
    · omega
  have hb := of_decide_eq_false hb
  have hw : ∀ {a : Int} {b : Nat}, ¬ less a b < 0 → (b : Int) ≤ a := fun {a b} h => by unfold less at h; split at h <;> omega
  have hb := hw hb
  rw [less_pos hb]
  clear hw
  refine seqK fun K hK => ?_
  simp only [bW, ↓splitB_true, ↓splitB_false, nilCmp, opConv, eq_self, if_true, if_false, Nat.reduceEqDiff, reduceCtorEq, ↓reduceIte, Nat.reduceLT, Nat.reduceAdd, Nat.reduceMul, Nat.reduceSub, Nat.reduceLeDiff, Nat.reduceBEq, Int.reduceEq, Int.reduceNeg, tk, ntmps84, results84, s123, s48]
  refine OkO_szP rfl et6 kt6' kt6 (by omega) (by omega) ?_
  simp only [bW, ↓splitB_true, ↓splitB_false, nilCmp, opConv, eq_self, if_true, if_false, Nat.reduceEqDiff, reduceCtorEq, ↓reduceIte, Nat.reduceLT, Nat.reduceAdd, Nat.reduceMul, Nat.reduceSub, Nat.reduceLeDiff, Nat.reduceBEq, Int.reduceEq, Int.reduceNeg, tk, ntmps84, results84, s123, s48]
  refine hK _ ?_; clear hK K
  refine seqK fun K hK => ?_
  simp only [bW, ↓splitB_true, ↓splitB_false, nilCmp, opConv, eq_self, if_true, if_false, Nat.reduceEqDiff, reduceCtorEq, ↓reduceIte, Nat.reduceLT, Nat.reduceAdd, Nat.reduceMul, Nat.reduceSub, Nat.reduceLeDiff, Nat.reduceBEq, Int.reduceEq, Int.reduceNeg, tk, ntmps84, results84, s123, s48]
  refine splitB_intro (fun hb => ?_) (fun hb => hK _ ?_) <;> clear hK K
  · have hb := of_decide_eq_true hb
    unfold less at hb
    split at hb
    · rw [less_neg (by omega)]
    · omega
  have hb := of_decide_eq_false hb
  have hw : ∀ {a : Int} {b : Nat}, ¬ less a b < 0 → (b : Int) ≤ a := fun {a b} h => by unfold less at h; split at h <;> omega
  have hb := hw hb
  rw [less_pos hb]
  clear hw
  simp only [bW, ↓splitB_true, ↓splitB_false, nilCmp, opConv, eq_self, if_true, if_false, Nat.reduceEqDiff, reduceCtorEq, ↓reduceIte, Nat.reduceLT, Nat.reduceAdd, Nat.reduceMul, Nat.reduceSub, Nat.reduceLeDiff, Nat.reduceBEq, Int.reduceEq, Int.reduceNeg, tk, ntmps84, results84, s123, s48]
  simp only [Option.some.injEq, Ret.mk.injEq, List.cons.injEq, Prod.mk.injEq, AV.d.injEq, D.i.injEq, D.b.injEq, D.s.injEq, true_and, and_true]
  rw [less_pos (by omega)]
  omega

theorem f47_ok {S : Nat → Option Summ} (hS : SumOK prog S) (s84 : S 84 = some (.own (szG lfun))) (ds : List D) (r : D) (hr : szP lfun ds = some r) : FnOK prog 47 (ds.map .d) { ret := r } := by
  obtain ⟨xs, n, rfl, h1, h2, h3, h4, h5, rfl⟩ := szP_inv hr
  clear hr
  have hsz : (lfun : List Sh).length = 6 := rfl
  rw [hsz]
  refine fnOK_awp (A := ⟨tab, S, .x⟩) tab_ok hS mixed func47 rfl rfl rfl rfl (by show 2 ≤ 27; decide) rfl ?_
  refine seqK fun K hK => ?_
  simp only [bW, ↓splitB_true, ↓splitB_false, nilCmp, opConv, eq_self, if_true, if_false, Nat.reduceEqDiff, reduceCtorEq, ↓reduceIte, Nat.reduceLT, Nat.reduceAdd, Nat.reduceMul, Nat.reduceSub, Nat.reduceLeDiff, Nat.reduceBEq, Int.reduceEq, Int.reduceNeg, tk, ntmps47, results47, s84]
  refine hK _ ?_; clear hK K
  refine seqK fun K hK => ?_
  simp only [bW, ↓splitB_true, ↓splitB_false, nilCmp, opConv, eq_self, if_true, if_false, Nat.reduceEqDiff, reduceCtorEq, ↓reduceIte, Nat.reduceLT, Nat.reduceAdd, Nat.reduceMul, Nat.reduceSub, Nat.reduceLeDiff, Nat.reduceBEq, Int.reduceEq, Int.reduceNeg, tk, ntmps47, results47, s84]
  simp (disch := omega) only [wrap64]
  refine hK _ ?_; clear hK K
  refine seqK fun K hK => ?_
  simp only [bW, ↓splitB_true, ↓splitB_false, nilCmp, opConv, eq_self, if_true, if_false, Nat.reduceEqDiff, reduceCtorEq, ↓reduceIte, Nat.reduceLT, Nat.reduceAdd, Nat.reduceMul, Nat.reduceSub, Nat.reduceLeDiff, Nat.reduceBEq, Int.reduceEq, Int.reduceNeg, tk, ntmps47, results47, s84]
  refine splitB_intro (fun hb => ?_) (fun hb => hK _ ?_) <;> clear hK K
  · have hb := of_decide_eq_true hb
    rw [less_neg (by omega)]
  have hb := of_decide_eq_false hb
  refine seqK fun K hK => ?_
  refine seqK fun K2 hK2 => ?_
  simp only [bW, ↓splitB_true, ↓splitB_false, nilCmp, opConv, eq_self, if_true, if_false, Nat.reduceEqDiff, reduceCtorEq, ↓reduceIte, Nat.reduceLT, Nat.reduceAdd, Nat.reduceMul, Nat.reduceSub, Nat.reduceLeDiff, Nat.reduceBEq, Int.reduceEq, Int.reduceNeg, tk, ntmps47, results47, s84]
  refine hK2 _ ?_; clear hK2 K2
  rw [awp_block]
  refine loopW [0, 1, 5] (fun i : Nat => stL 27 [(0, .d (.l 6 xs)), (1, .d (.i .i64 (n - (xs.length + wtLL (xs.take i) : Nat)))), (5, .d (.i .i64 i))] []) (fun i => i ≤ xs.length ∧ (xs.length + wtLL (xs.take i) : Nat) ≤ n) (fun i => xs.length - i) ?_ ?_
  · refine ⟨?_, 0, ?_, ?_, ?_⟩
    · simp only [bK, Nat.reduceEqDiff, reduceCtorEq, ↓reduceIte, Nat.reduceBEq, Nat.reduceLeDiff, Nat.reduceAdd, if_true, if_false]
    · simp only [bK, Nat.reduceEqDiff, reduceCtorEq, ↓reduceIte, Nat.reduceBEq, Nat.reduceLeDiff, Nat.reduceAdd, if_true, if_false]
      refine stL_eq ?_ rfl
      simp only [Option.some.injEq, Ret.mk.injEq, List.cons.injEq, Prod.mk.injEq, AV.d.injEq, D.i.injEq, D.b.injEq, D.s.injEq, true_and, and_true]
      simp only [List.take_zero, wtLL]; omega
    · omega
    · simp only [List.take_zero, wtLL]; omega
  rintro i ⟨hi, hn⟩
  refine seqK fun K3 hK3 => ?_
  simp only [bW, ↓splitB_true, ↓splitB_false, nilCmp, opConv, eq_self, if_true, if_false, Nat.reduceEqDiff, reduceCtorEq, ↓reduceIte, Nat.reduceLT, Nat.reduceAdd, Nat.reduceMul, Nat.reduceSub, Nat.reduceLeDiff, Nat.reduceBEq, Int.reduceEq, Int.reduceNeg, tk, ntmps47, results47, s84]
  refine splitB_intro (fun hb => hK3 _ ?_) (fun hb => hK _ ?_) <;> clear hK3 K3
  · have hlt := of_decide_eq_true hb
    clear hb
    have hlt : i < xs.length := by omega
    have hrow := shLL_get h1 hlt
    have hlen := shL_length hrow
    rw [hsz] at hlen
    have hok := okLL_get h2 hlt
    have hw := wtLL_take hlt
    have hm := wtLL_mono hlt
    generalize hrw : xs.getD i [] = row at hrow hlen hok hw hm
    refine seqK fun K4 hK4 => ?_
    rw [awp_block]
    refine seqK fun K5 hK5 => ?_
    simp only [bW, ↓splitB_true, ↓splitB_false, nilCmp, opConv, eq_self, if_true, if_false, Nat.reduceEqDiff, reduceCtorEq, ↓reduceIte, Nat.reduceLT, Nat.reduceAdd, Nat.reduceMul, Nat.reduceSub, Nat.reduceLeDiff, Nat.reduceBEq, Int.reduceEq, Int.reduceNeg, tk, ntmps47, results47, s84]
    refine ⟨⟨by omega, by omega⟩, ?_⟩
    rw [hrw]
    refine ⟨by omega, ?_⟩
    rw [List.take_of_length_le (by omega)]
    simp only [borCs_d]
    simp only [bW, ↓splitB_true, ↓splitB_false, nilCmp, opConv, eq_self, if_true, if_false, Nat.reduceEqDiff, reduceCtorEq, ↓reduceIte, Nat.reduceLT, Nat.reduceAdd, Nat.reduceMul, Nat.reduceSub, Nat.reduceLeDiff, Nat.reduceBEq, Int.reduceEq, Int.reduceNeg, tk, ntmps47, results47, s84]
    refine OkO_szG hrow hok (by omega) (by omega) ?_
    simp only [bW, ↓splitB_true, ↓splitB_false, nilCmp, opConv, eq_self, if_true, if_false, Nat.reduceEqDiff, reduceCtorEq, ↓reduceIte, Nat.reduceLT, Nat.reduceAdd, Nat.reduceMul, Nat.reduceSub, Nat.reduceLeDiff, Nat.reduceBEq, Int.reduceEq, Int.reduceNeg, tk, ntmps47, results47, s84]
    refine hK5 _ ?_; clear hK5 K5
    simp only [bW, ↓splitB_true, ↓splitB_false, nilCmp, opConv, eq_self, if_true, if_false, Nat.reduceEqDiff, reduceCtorEq, ↓reduceIte, Nat.reduceLT, Nat.reduceAdd, Nat.reduceMul, Nat.reduceSub, Nat.reduceLeDiff, Nat.reduceBEq, Int.reduceEq, Int.reduceNeg, tk, ntmps47, results47, s84]
    refine splitB_intro (fun hb => ?_) (fun hb => hK4 _ ?_) <;> clear hK4 K4
    · have hb := of_decide_eq_true hb
      unfold less at hb
      split at hb
      · rw [less_neg (by omega)]
      · omega
    have hb := of_decide_eq_false hb
    have hw2 : ∀ {a : Int} {b : Nat}, ¬ less a b < 0 → (b : Int) ≤ a := fun {a b} h => by unfold less at h; split at h <;> omega
    have hb := hw2 hb
    rw [less_pos hb]
    clear hw2
    simp only [bW, ↓splitB_true, ↓splitB_false, nilCmp, opConv, eq_self, if_true, if_false, Nat.reduceEqDiff, reduceCtorEq, ↓reduceIte, Nat.reduceLT, Nat.reduceAdd, Nat.reduceMul, Nat.reduceSub, Nat.reduceLeDiff, Nat.reduceBEq, Int.reduceEq, Int.reduceNeg, tk, ntmps47, results47, s84]
    simp (disch := omega) only [wrap64]
    refine ⟨?_, i + 1, ?_, ⟨?_, ?_⟩, ?_⟩
    · simp only [bK, Nat.reduceEqDiff, reduceCtorEq, ↓reduceIte, Nat.reduceBEq, Nat.reduceLeDiff, Nat.reduceAdd, if_true, if_false]
    · simp only [bK, Nat.reduceEqDiff, reduceCtorEq, ↓reduceIte, Nat.reduceBEq, Nat.reduceLeDiff, Nat.reduceAdd, if_true, if_false]
      refine stL_eq ?_ rfl
      simp only [Option.some.injEq, Ret.mk.injEq, List.cons.injEq, Prod.mk.injEq, AV.d.injEq, D.i.injEq, D.b.injEq, D.s.injEq, true_and, and_true]
      omega
    · omega
    · omega
    · omega
  · have hge := of_decide_eq_false hb
    have e : i = xs.length := by omega
    subst e
    simp only [List.take_length] at hn ⊢
    simp only [bW, ↓splitB_true, ↓splitB_false, nilCmp, opConv, eq_self, if_true, if_false, Nat.reduceEqDiff, reduceCtorEq, ↓reduceIte, Nat.reduceLT, Nat.reduceAdd, Nat.reduceMul, Nat.reduceSub, Nat.reduceLeDiff, Nat.reduceBEq, Int.reduceEq, Int.reduceNeg, tk, ntmps47, results47, s84]
    simp only [Option.some.injEq, Ret.mk.injEq, List.cons.injEq, Prod.mk.injEq, AV.d.injEq, D.i.injEq, D.b.injEq, D.s.injEq, true_and, and_true]
    rw [less_pos (by omega)]

theorem f15_ok {S : Nat → Option Summ} (hS : SumOK prog S) (s47 : S 47 = some (.own (szP lfun))) (s48 : S 48 = some (.own (szP [.i]))) (ds : List D) (r : D) (hr : szG limg ds = some r) : FnOK prog 15 (ds.map .d) { ret := r } := by
  obtain ⟨xs, n, rfl, h1, h2, h4, h5, rfl⟩ := szG_inv hr
  clear hr
  obtain ⟨ct1, qt1, rfl, et1, h1⟩ := shL_cons h1
  obtain ⟨ct2, qt2, rfl, et2, h1⟩ := shL_cons h1
  obtain rfl := shL_nil h1
  obtain ⟨zt1, t1, rfl, hzt1, et1⟩ := shD_l2 et1
  obtain rfl : zt1 = 6 := hzt1
  obtain ⟨zt2, t2, rfl, hzt2, et2⟩ := shD_l2 et2
  obtain rfl : zt2 = 1 := hzt2
  simp only [okL_cons, okL_nil, okD_s, okD_l, okD_i, okD_b, and_true, true_and] at h2
  obtain ⟨⟨kt1, kt1'⟩, ⟨kt2, kt2'⟩⟩ := h2
  simp only [wtL, wt, wt_i, wt_b]
  refine fnOK_awp (A := ⟨tab, S, .x⟩) tab_ok hS mixed func15 rfl rfl rfl rfl (by show 2 ≤ 18; decide) rfl ?_
  refine seqK fun K hK => ?_
  simp only [bW, ↓splitB_true, ↓splitB_false, nilCmp, opConv, eq_self, if_true, if_false, Nat.reduceEqDiff, reduceCtorEq, ↓reduceIte, Nat.reduceLT, Nat.reduceAdd, Nat.reduceMul, Nat.reduceSub, Nat.reduceLeDiff, Nat.reduceBEq, Int.reduceEq, Int.reduceNeg, tk, ntmps15, results15, s47, s48]
  refine hK _ ?_; clear hK K
  refine seqK fun K hK => ?_
  simp only [bW, ↓splitB_true, ↓splitB_false, nilCmp, opConv, eq_self, if_true, if_false, Nat.reduceEqDiff, reduceCtorEq, ↓reduceIte, Nat.reduceLT, Nat.reduceAdd, Nat.reduceMul, Nat.reduceSub, Nat.reduceLeDiff, Nat.reduceBEq, Int.reduceEq, Int.reduceNeg, tk, ntmps15, results15, s47, s48]
  refine OkO_szP rfl et1 kt1' kt1 (by omega) (by omega) ?_
  simp only [bW, ↓splitB_true, ↓splitB_false, nilCmp, opConv, eq_self, if_true, if_false, Nat.reduceEqDiff, reduceCtorEq, ↓reduceIte, Nat.reduceLT, Nat.reduceAdd, Nat.reduceMul, Nat.reduceSub, Nat.reduceLeDiff, Nat.reduceBEq, Int.reduceEq, Int.reduceNeg, tk, ntmps15, results15, s47, s48]
  refine hK _ ?_; clear hK K
  refine seqK fun K hK => ?_
  simp only [bW, ↓splitB_true, ↓splitB_false, nilCmp, opConv, eq_self, if_true, if_false, Nat.reduceEqDiff, reduceCtorEq, ↓reduceIte, Nat.reduceLT, Nat.reduceAdd, Nat.reduceMul, Nat.reduceSub, Nat.reduceLeDiff, Nat.reduceBEq, Int.reduceEq, Int.reduceNeg, tk, ntmps15, results15, s47, s48]
  refine splitB_intro (fun hb => ?_) (fun hb => hK _ ?_) <;> clear hK K
  · have hb := of_decide_eq_true hb
    unfold less at hb
    split at hb
    · rw [less_neg (by omega)]
    · omega
  have hb := of_decide_eq_false hb
  have hw : ∀ {a : Int} {b : Nat}, ¬ less a b < 0 → (b : Int) ≤ a := fun {a b} h => by unfold less at h; split at h <;> omega
  have hb := hw hb
  rw [less_pos hb]
  clear hw
  refine seqK fun K hK => ?_
  simp only [bW, ↓splitB_true, ↓splitB_false, nilCmp, opConv, eq_self, if_true, if_false, Nat.reduceEqDiff, reduceCtorEq, ↓reduceIte, Nat.reduceLT, Nat.reduceAdd, Nat.reduceMul, Nat.reduceSub, Nat.reduceLeDiff, Nat.reduceBEq, Int.reduceEq, Int.reduceNeg, tk, ntmps15, results15, s47, s48]
  refine OkO_szP rfl et2 kt2' kt2 (by omega) (by omega) ?_
  simp only [bW, ↓splitB_true, ↓splitB_false, nilCmp, opConv, eq_self, if_true, if_false, Nat.reduceEqDiff, reduceCtorEq, ↓reduceIte, Nat.reduceLT, Nat.reduceAdd, Nat.reduceMul, Nat.reduceSub, Nat.reduceLeDiff, Nat.reduceBEq, Int.reduceEq, Int.reduceNeg, tk, ntmps15, results15, s47, s48]
  refine hK _ ?_; clear hK K
  refine seqK fun K hK => ?_
  simp only [bW, ↓splitB_true, ↓splitB_false, nilCmp, opConv, eq_self, if_true, if_false, Nat.reduceEqDiff, reduceCtorEq, ↓reduceIte, Nat.reduceLT, Nat.reduceAdd, Nat.reduceMul, Nat.reduceSub, Nat.reduceLeDiff, Nat.reduceBEq, Int.reduceEq, Int.reduceNeg, tk, ntmps15, results15, s47, s48]
  refine splitB_intro (fun hb => ?_) (fun hb => hK _ ?_) <;> clear hK K
  · have hb := of_decide_eq_true hb
    unfold less at hb
    split at hb
    · rw [less_neg (by omega)]
    · omega
  have hb := of_decide_eq_false hb
  have hw : ∀ {a : Int} {b : Nat}, ¬ less a b < 0 → (b : Int) ≤ a := fun {a b} h => by unfold less at h; split at h <;> omega
  have hb := hw hb
  rw [less_pos hb]
  clear hw
  simp only [bW, ↓splitB_true, ↓splitB_false, nilCmp, opConv, eq_self, if_true, if_false, Nat.reduceEqDiff, reduceCtorEq, ↓reduceIte, Nat.reduceLT, Nat.reduceAdd, Nat.reduceMul, Nat.reduceSub, Nat.reduceLeDiff, Nat.reduceBEq, Int.reduceEq, Int.reduceNeg, tk, ntmps15, results15, s47, s48]
  simp only [Option.some.injEq, Ret.mk.injEq, List.cons.injEq, Prod.mk.injEq, AV.d.injEq, D.i.injEq, D.b.injEq, D.s.injEq, true_and, and_true]
  rw [less_pos (by omega)]
  omega

end Go.Fs.Sr
