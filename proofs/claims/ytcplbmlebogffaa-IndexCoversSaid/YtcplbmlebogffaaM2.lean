/- Texts of this claim, joined: an abstract machine over the model, proved sound; contracts of functions. -/
import Derived.Test.YtcplbmlebogffaaM1
set_option linter.unusedSimpArgs false
set_option linter.unusedVariables false

namespace Go.Proofs.Ytcplbmlebogffaa
open Go GoV
set_option maxHeartbeats 2000000

def numberB (n e no want : Int) : Bool := if no = 0 then decide (n = want ∧ e = 0) else decide (n = 0 ∧ e = no)

theorem lawnumber_vc (n e no want : Int) : VCalls Try.prog 17 [I n, I e, I no, I want] [] (fun v fr => v = B (numberB n e no want) ∧ fr = []) := by
  refine vcalls_fn hmix h17 rfl ?_
  simp -implicitDefEqProofs only [c17, vnD_mk, vopsD_nil, vopsD_one, vopsD_grd, vgD_true, vgD_false, vgD_dec, vgD_und, det_ret, det_nd, det_fail, det_br, awp_skip, awp_ret, awp_exit, awp_seq, awp_block, awp_loop, awp_reg, regK_mk, awp_regD, regD_mk, awp_cond, condW_dec, condW_not, condW_true, condW_false, thn_n, thn_x, thn_r, brk_n, brk_r, brk_x, vnext_mk, vops_nil, vops_one, vops_grd, vgd_true, vgd_false, vgd_dec, vgd_not, vgd_und, sem_ret, sem_nd, sem_fail, sem_br, bind_ret, bind_nd, bind_fail, bind_br, ofOpt_some, ofOpt_none, finW_n, finW_r, outMarks_nil, vop, ev, evL, getT, setT, putT, binV, binI, binB, shiftI, kEq, unV, negI, convV, lenV, lenSV, bnd, getR, sliceOf, castD_self, rng, enumT, okCells, cellsV, cellsD, fillV, fillS, cv, cvC, cvS, cvL, cvU, Ty.size, Ty.isAgg, Ty.dflt, elems, appV, mkI, mmI, NatBeq, NatBlt, NatBle, Nat.reduceBEq, Nat.reduceLT, Nat.reduceLeDiff, Nat.reduceAdd, Nat.reduceSub, Nat.reduceMul, Nat.reduceEqDiff, decide_true, decide_false, List.length_cons, List.length_nil, List.nil_append, List.cons_append, List.append_nil, List.getElem?_cons_zero, List.getElem?_cons_succ, List.take_zero, List.set_cons_zero, List.set_cons_succ, true_implies, false_implies, forall_const, and_true, true_and, and_self, Bool.false_eq_true, reduceCtorEq, if_false, if_true, ↓reduceIte, decide_eq_true_eq, decide_eq_false_iff_not, Bool.not_true, Bool.not_false, not_true_eq_false, not_false_eq_true, Int.reduceEq, Int.reduceLT, Int.reduceLE, Int.reduceNe, Int.reduceAdd, Int.reduceSub, Int.reduceMul, Int.reduceToNat, subL_cons, subL_zero, List.replicate_succ, List.replicate_zero, Nat.zero_add, Nat.mul_one, Nat.one_mul, List.isEmpty_cons, List.isEmpty_nil, splice, rangeEnd, endF, shA, shAs, shB, shRowB, setTs, bodyW, roundW, endRoundW, outMarks_cons, noDfr, fillD]
  refine ⟨fun h => ⟨fun h1 => finK_of 0 rfl rfl ⟨?_, rfl⟩, fun h1 => finK_of 0 rfl rfl ⟨?_, rfl⟩⟩, fun h => ⟨fun h1 => finK_of 0 rfl rfl ⟨?_, rfl⟩, fun h1 => finK_of 0 rfl rfl ⟨?_, rfl⟩⟩⟩
  · show B (decide (e = no)) = _
    simp [numberB, h, h1]
  · show B false = _
    simp [numberB, h, h1]
  · show B (decide (e = 0)) = _
    simp [numberB, h, h1]
  · show B false = _
    simp [numberB, h, h1]

def thenI (e : Int) (r : Bool) : Int := if e = 0 ∧ r = false then 2 else e

theorem then_vc (e : Int) (r : Bool) : VCalls Try.prog 19 [I e, B r] [] (fun v fr => v = I (thenI e r) ∧ fr = []) := by
  refine vcalls_fn hmix h19 rfl ?_
  cases r with
  | true =>
    simp -implicitDefEqProofs only [c19, vnD_mk, vopsD_nil, vopsD_one, vopsD_grd, vgD_true, vgD_false, vgD_dec, vgD_und, det_ret, det_nd, det_fail, det_br, awp_skip, awp_ret, awp_exit, awp_seq, awp_block, awp_loop, awp_reg, regK_mk, awp_regD, regD_mk, awp_cond, condW_dec, condW_not, condW_true, condW_false, thn_n, thn_x, thn_r, brk_n, brk_r, brk_x, vnext_mk, vops_nil, vops_one, vops_grd, vgd_true, vgd_false, vgd_dec, vgd_not, vgd_und, sem_ret, sem_nd, sem_fail, sem_br, bind_ret, bind_nd, bind_fail, bind_br, ofOpt_some, ofOpt_none, finW_n, finW_r, outMarks_nil, vop, ev, evL, getT, setT, putT, binV, binI, binB, shiftI, kEq, unV, negI, convV, lenV, lenSV, bnd, getR, sliceOf, castD_self, rng, enumT, okCells, cellsV, cellsD, fillV, fillS, cv, cvC, cvS, cvL, cvU, Ty.size, Ty.isAgg, Ty.dflt, elems, appV, mkI, mmI, NatBeq, NatBlt, NatBle, Nat.reduceBEq, Nat.reduceLT, Nat.reduceLeDiff, Nat.reduceAdd, Nat.reduceSub, Nat.reduceMul, Nat.reduceEqDiff, decide_true, decide_false, List.length_cons, List.length_nil, List.nil_append, List.cons_append, List.append_nil, List.getElem?_cons_zero, List.getElem?_cons_succ, List.take_zero, List.set_cons_zero, List.set_cons_succ, true_implies, false_implies, forall_const, and_true, true_and, and_self, Bool.false_eq_true, reduceCtorEq, if_false, if_true, ↓reduceIte, decide_eq_true_eq, decide_eq_false_iff_not, Bool.not_true, Bool.not_false, not_true_eq_false, not_false_eq_true, Int.reduceEq, Int.reduceLT, Int.reduceLE, Int.reduceNe, Int.reduceAdd, Int.reduceSub, Int.reduceMul, Int.reduceToNat, subL_cons, subL_zero, List.replicate_succ, List.replicate_zero, Nat.zero_add, Nat.mul_one, Nat.one_mul, List.isEmpty_cons, List.isEmpty_nil, splice, rangeEnd, endF, shA, shAs, shB, shRowB, setTs, bodyW, roundW, endRoundW, outMarks_cons, noDfr, fillD]
    refine ⟨fun h => finK_of 0 rfl rfl ⟨?_, rfl⟩, fun h => finK_of 0 rfl rfl ⟨?_, rfl⟩⟩
    · show I e = _
      simp [thenI]
    · show I e = _
      simp [thenI]
  | false =>
    simp -implicitDefEqProofs only [c19, vnD_mk, vopsD_nil, vopsD_one, vopsD_grd, vgD_true, vgD_false, vgD_dec, vgD_und, det_ret, det_nd, det_fail, det_br, awp_skip, awp_ret, awp_exit, awp_seq, awp_block, awp_loop, awp_reg, regK_mk, awp_regD, regD_mk, awp_cond, condW_dec, condW_not, condW_true, condW_false, thn_n, thn_x, thn_r, brk_n, brk_r, brk_x, vnext_mk, vops_nil, vops_one, vops_grd, vgd_true, vgd_false, vgd_dec, vgd_not, vgd_und, sem_ret, sem_nd, sem_fail, sem_br, bind_ret, bind_nd, bind_fail, bind_br, ofOpt_some, ofOpt_none, finW_n, finW_r, outMarks_nil, vop, ev, evL, getT, setT, putT, binV, binI, binB, shiftI, kEq, unV, negI, convV, lenV, lenSV, bnd, getR, sliceOf, castD_self, rng, enumT, okCells, cellsV, cellsD, fillV, fillS, cv, cvC, cvS, cvL, cvU, Ty.size, Ty.isAgg, Ty.dflt, elems, appV, mkI, mmI, NatBeq, NatBlt, NatBle, Nat.reduceBEq, Nat.reduceLT, Nat.reduceLeDiff, Nat.reduceAdd, Nat.reduceSub, Nat.reduceMul, Nat.reduceEqDiff, decide_true, decide_false, List.length_cons, List.length_nil, List.nil_append, List.cons_append, List.append_nil, List.getElem?_cons_zero, List.getElem?_cons_succ, List.take_zero, List.set_cons_zero, List.set_cons_succ, true_implies, false_implies, forall_const, and_true, true_and, and_self, Bool.false_eq_true, reduceCtorEq, if_false, if_true, ↓reduceIte, decide_eq_true_eq, decide_eq_false_iff_not, Bool.not_true, Bool.not_false, not_true_eq_false, not_false_eq_true, Int.reduceEq, Int.reduceLT, Int.reduceLE, Int.reduceNe, Int.reduceAdd, Int.reduceSub, Int.reduceMul, Int.reduceToNat, subL_cons, subL_zero, List.replicate_succ, List.replicate_zero, Nat.zero_add, Nat.mul_one, Nat.one_mul, List.isEmpty_cons, List.isEmpty_nil, splice, rangeEnd, endF, shA, shAs, shB, shRowB, setTs, bodyW, roundW, endRoundW, outMarks_cons, noDfr, fillD]
    refine ⟨fun h => finK_of 0 rfl rfl ⟨?_, rfl⟩, fun h => finK_of 0 rfl rfl ⟨?_, rfl⟩⟩
    · show I 2 = _
      simp [thenI, h]
    · show I e = _
      simp [thenI, h]

theorem first_vc (xs : List Int) : VCalls Try.prog 13 [IL xs] [] (fun v fr => v = I (match sizeS xs with | some _ => 0 | none => 20) ∧ fr = []) := by
  refine vcalls_fn hmix h13 rfl ?_
  simp -implicitDefEqProofs only [c13, vnD_mk, vopsD_nil, vopsD_one, vopsD_grd, vgD_true, vgD_false, vgD_dec, vgD_und, det_ret, det_nd, det_fail, det_br, awp_skip, awp_ret, awp_exit, awp_seq, awp_block, awp_loop, awp_reg, regK_mk, awp_regD, regD_mk, awp_cond, condW_dec, condW_not, condW_true, condW_false, thn_n, thn_x, thn_r, brk_n, brk_r, brk_x, vnext_mk, vops_nil, vops_one, vops_grd, vgd_true, vgd_false, vgd_dec, vgd_not, vgd_und, sem_ret, sem_nd, sem_fail, sem_br, bind_ret, bind_nd, bind_fail, bind_br, ofOpt_some, ofOpt_none, finW_n, finW_r, outMarks_nil, vop, ev, evL, getT, setT, putT, binV, binI, binB, shiftI, kEq, unV, negI, convV, lenV, lenSV, bnd, getR, sliceOf, castD_self, rng, enumT, okCells, cellsV, cellsD, fillV, fillS, cv, cvC, cvS, cvL, cvU, Ty.size, Ty.isAgg, Ty.dflt, elems, appV, mkI, mmI, NatBeq, NatBlt, NatBle, Nat.reduceBEq, Nat.reduceLT, Nat.reduceLeDiff, Nat.reduceAdd, Nat.reduceSub, Nat.reduceMul, Nat.reduceEqDiff, decide_true, decide_false, List.length_cons, List.length_nil, List.nil_append, List.cons_append, List.append_nil, List.getElem?_cons_zero, List.getElem?_cons_succ, List.take_zero, List.set_cons_zero, List.set_cons_succ, true_implies, false_implies, forall_const, and_true, true_and, and_self, Bool.false_eq_true, reduceCtorEq, if_false, if_true, ↓reduceIte, decide_eq_true_eq, decide_eq_false_iff_not, Bool.not_true, Bool.not_false, not_true_eq_false, not_false_eq_true, Int.reduceEq, Int.reduceLT, Int.reduceLE, Int.reduceNe, Int.reduceAdd, Int.reduceSub, Int.reduceMul, Int.reduceToNat, subL_cons, subL_zero, List.replicate_succ, List.replicate_zero, Nat.zero_add, Nat.mul_one, Nat.one_mul, List.isEmpty_cons, List.isEmpty_nil, splice, rangeEnd, endF, shA, shAs, shB, shRowB, setTs, bodyW, roundW, endRoundW, outMarks_cons, noDfr, fillD]
  refine read_rule (right_vc xs) ⟨rfl, trivial⟩ rfl ?_
  cases sizeS xs with
  | some s =>
    simp -implicitDefEqProofs only [Option.isSome, shA, shAs, shRows, vnD_mk, vopsD_nil, vopsD_one, vopsD_grd, vgD_true, vgD_false, vgD_dec, vgD_und, det_ret, det_nd, det_fail, det_br, awp_skip, awp_ret, awp_exit, awp_seq, awp_block, awp_loop, awp_reg, regK_mk, awp_regD, regD_mk, awp_cond, condW_dec, condW_not, condW_true, condW_false, thn_n, thn_x, thn_r, brk_n, brk_r, brk_x, vnext_mk, vops_nil, vops_one, vops_grd, vgd_true, vgd_false, vgd_dec, vgd_not, vgd_und, sem_ret, sem_nd, sem_fail, sem_br, bind_ret, bind_nd, bind_fail, bind_br, ofOpt_some, ofOpt_none, finW_n, finW_r, outMarks_nil, vop, ev, evL, getT, setT, putT, binV, binI, binB, shiftI, kEq, unV, negI, convV, lenV, lenSV, bnd, getR, sliceOf, castD_self, rng, enumT, okCells, cellsV, cellsD, fillV, fillS, cv, cvC, cvS, cvL, cvU, Ty.size, Ty.isAgg, Ty.dflt, elems, appV, mkI, mmI, NatBeq, NatBlt, NatBle, Nat.reduceBEq, Nat.reduceLT, Nat.reduceLeDiff, Nat.reduceAdd, Nat.reduceSub, Nat.reduceMul, Nat.reduceEqDiff, decide_true, decide_false, List.length_cons, List.length_nil, List.nil_append, List.cons_append, List.append_nil, List.getElem?_cons_zero, List.getElem?_cons_succ, List.take_zero, List.set_cons_zero, List.set_cons_succ, true_implies, false_implies, forall_const, and_true, true_and, and_self, Bool.false_eq_true, reduceCtorEq, if_false, if_true, ↓reduceIte, decide_eq_true_eq, decide_eq_false_iff_not, Bool.not_true, Bool.not_false, not_true_eq_false, not_false_eq_true, Int.reduceEq, Int.reduceLT, Int.reduceLE, Int.reduceNe, Int.reduceAdd, Int.reduceSub, Int.reduceMul, Int.reduceToNat, subL_cons, subL_zero, List.replicate_succ, List.replicate_zero, Nat.zero_add, Nat.mul_one, Nat.one_mul, List.isEmpty_cons, List.isEmpty_nil, splice, rangeEnd, endF, shA, shAs, shB, shRowB, setTs, bodyW, roundW, endRoundW, outMarks_cons, noDfr, fillD]
    exact finK_of 0 rfl rfl ⟨rfl, rfl⟩
  | none =>
    simp -implicitDefEqProofs only [Option.isSome, shA, shAs, shRows, vnD_mk, vopsD_nil, vopsD_one, vopsD_grd, vgD_true, vgD_false, vgD_dec, vgD_und, det_ret, det_nd, det_fail, det_br, awp_skip, awp_ret, awp_exit, awp_seq, awp_block, awp_loop, awp_reg, regK_mk, awp_regD, regD_mk, awp_cond, condW_dec, condW_not, condW_true, condW_false, thn_n, thn_x, thn_r, brk_n, brk_r, brk_x, vnext_mk, vops_nil, vops_one, vops_grd, vgd_true, vgd_false, vgd_dec, vgd_not, vgd_und, sem_ret, sem_nd, sem_fail, sem_br, bind_ret, bind_nd, bind_fail, bind_br, ofOpt_some, ofOpt_none, finW_n, finW_r, outMarks_nil, vop, ev, evL, getT, setT, putT, binV, binI, binB, shiftI, kEq, unV, negI, convV, lenV, lenSV, bnd, getR, sliceOf, castD_self, rng, enumT, okCells, cellsV, cellsD, fillV, fillS, cv, cvC, cvS, cvL, cvU, Ty.size, Ty.isAgg, Ty.dflt, elems, appV, mkI, mmI, NatBeq, NatBlt, NatBle, Nat.reduceBEq, Nat.reduceLT, Nat.reduceLeDiff, Nat.reduceAdd, Nat.reduceSub, Nat.reduceMul, Nat.reduceEqDiff, decide_true, decide_false, List.length_cons, List.length_nil, List.nil_append, List.cons_append, List.append_nil, List.getElem?_cons_zero, List.getElem?_cons_succ, List.take_zero, List.set_cons_zero, List.set_cons_succ, true_implies, false_implies, forall_const, and_true, true_and, and_self, Bool.false_eq_true, reduceCtorEq, if_false, if_true, ↓reduceIte, decide_eq_true_eq, decide_eq_false_iff_not, Bool.not_true, Bool.not_false, not_true_eq_false, not_false_eq_true, Int.reduceEq, Int.reduceLT, Int.reduceLE, Int.reduceNe, Int.reduceAdd, Int.reduceSub, Int.reduceMul, Int.reduceToNat, subL_cons, subL_zero, List.replicate_succ, List.replicate_zero, Nat.zero_add, Nat.mul_one, Nat.one_mul, List.isEmpty_cons, List.isEmpty_nil, splice, rangeEnd, endF, shA, shAs, shB, shRowB, setTs, bodyW, roundW, endRoundW, outMarks_cons, noDfr, fillD]
    exact finK_of 0 rfl rfl ⟨rfl, rfl⟩
end Go.Proofs.Ytcplbmlebogffaa

namespace Go.Proofs.Ytcplbmlebogffaa
open Go GoV
set_option maxHeartbeats 2000000

theorem same_vc (a b : List Int) (hl : a.length ≤ 100000) : VCalls Try.prog 20 [IL a, IL b] [] (fun v fr => v = B (decide (a = b)) ∧ fr = []) := by
  refine vcalls_fn hmix h20 rfl ?_
  simp -implicitDefEqProofs only [c20, vnD_mk, vopsD_nil, vopsD_one, vopsD_grd, vgD_true, vgD_false, vgD_dec, vgD_und, det_ret, det_nd, det_fail, det_br, awp_skip, awp_ret, awp_exit, awp_seq, awp_block, awp_loop, awp_reg, regK_mk, awp_regD, regD_mk, awp_cond, condW_dec, condW_not, condW_true, condW_false, thn_n, thn_x, thn_r, brk_n, brk_r, brk_x, vnext_mk, vops_nil, vops_one, vops_grd, vgd_true, vgd_false, vgd_dec, vgd_not, vgd_und, sem_ret, sem_nd, sem_fail, sem_br, bind_ret, bind_nd, bind_fail, bind_br, ofOpt_some, ofOpt_none, finW_n, finW_r, outMarks_nil, vop, ev, evL, getT, setT, putT, binV, binI, binB, shiftI, kEq, unV, negI, convV, lenV, lenSV, bnd, getR, sliceOf, castD_self, rng, enumT, okCells, cellsV, cellsD, fillV, fillS, cv, cvC, cvS, cvL, cvU, Ty.size, Ty.isAgg, Ty.dflt, elems, appV, mkI, mmI, NatBeq, NatBlt, NatBle, Nat.reduceBEq, Nat.reduceLT, Nat.reduceLeDiff, Nat.reduceAdd, Nat.reduceSub, Nat.reduceMul, Nat.reduceEqDiff, decide_true, decide_false, List.length_cons, List.length_nil, List.nil_append, List.cons_append, List.append_nil, List.getElem?_cons_zero, List.getElem?_cons_succ, List.take_zero, List.set_cons_zero, List.set_cons_succ, true_implies, false_implies, forall_const, and_true, true_and, and_self, Bool.false_eq_true, reduceCtorEq, if_false, if_true, ↓reduceIte, decide_eq_true_eq, decide_eq_false_iff_not, Bool.not_true, Bool.not_false, not_true_eq_false, not_false_eq_true, Int.reduceEq, Int.reduceLT, Int.reduceLE, Int.reduceNe, Int.reduceAdd, Int.reduceSub, Int.reduceMul, Int.reduceToNat, subL_cons, subL_zero, List.replicate_succ, List.replicate_zero, Nat.zero_add, Nat.mul_one, Nat.one_mul, List.isEmpty_cons, List.isEmpty_nil, splice, rangeEnd, endF, shA, shAs, shB, shRowB, setTs, bodyW, roundW, endRoundW, outMarks_cons, noDfr, fillD]
  refine ⟨fun h => ?_, fun h => ?_⟩
  · refine finK_of 0 rfl rfl ⟨?_, rfl⟩
    have : a ≠ b := fun e => h (by rw [e])
    rw [decide_eq_false this]; rfl
  have hlen : a.length = b.length := by omega
  refine loop_rule (α := Nat) (fun k => ⟨[(5, I k), (1, IL b), (0, IL a)], [], []⟩) (fun k => k ≤ a.length ∧ (a = b ↔ a.drop k = b.drop k)) (fun k => a.length - k)
    [5, 1, 0] 0 0 rfl ⟨rfl, rfl, rfl⟩ rfl ⟨by omega, Iff.rfl⟩ ?_
  rintro k ⟨hk, he⟩
  simp -implicitDefEqProofs only [c20L0, vnD_mk, vopsD_nil, vopsD_one, vopsD_grd, vgD_true, vgD_false, vgD_dec, vgD_und, det_ret, det_nd, det_fail, det_br, awp_skip, awp_ret, awp_exit, awp_seq, awp_block, awp_loop, awp_reg, regK_mk, awp_regD, regD_mk, awp_cond, condW_dec, condW_not, condW_true, condW_false, thn_n, thn_x, thn_r, brk_n, brk_r, brk_x, vnext_mk, vops_nil, vops_one, vops_grd, vgd_true, vgd_false, vgd_dec, vgd_not, vgd_und, sem_ret, sem_nd, sem_fail, sem_br, bind_ret, bind_nd, bind_fail, bind_br, ofOpt_some, ofOpt_none, finW_n, finW_r, outMarks_nil, vop, ev, evL, getT, setT, putT, binV, binI, binB, shiftI, kEq, unV, negI, convV, lenV, lenSV, bnd, getR, sliceOf, castD_self, rng, enumT, okCells, cellsV, cellsD, fillV, fillS, cv, cvC, cvS, cvL, cvU, Ty.size, Ty.isAgg, Ty.dflt, elems, appV, mkI, mmI, NatBeq, NatBlt, NatBle, Nat.reduceBEq, Nat.reduceLT, Nat.reduceLeDiff, Nat.reduceAdd, Nat.reduceSub, Nat.reduceMul, Nat.reduceEqDiff, decide_true, decide_false, List.length_cons, List.length_nil, List.nil_append, List.cons_append, List.append_nil, List.getElem?_cons_zero, List.getElem?_cons_succ, List.take_zero, List.set_cons_zero, List.set_cons_succ, true_implies, false_implies, forall_const, and_true, true_and, and_self, Bool.false_eq_true, reduceCtorEq, if_false, if_true, ↓reduceIte, decide_eq_true_eq, decide_eq_false_iff_not, Bool.not_true, Bool.not_false, not_true_eq_false, not_false_eq_true, Int.reduceEq, Int.reduceLT, Int.reduceLE, Int.reduceNe, Int.reduceAdd, Int.reduceSub, Int.reduceMul, Int.reduceToNat, subL_cons, subL_zero, List.replicate_succ, List.replicate_zero, Nat.zero_add, Nat.mul_one, Nat.one_mul, List.isEmpty_cons, List.isEmpty_nil, splice, rangeEnd, endF, shA, shAs, shB, shRowB, setTs, bodyW, roundW, endRoundW, outMarks_cons, noDfr, fillD]
  simp only [inR, Int.toNat_natCast]
  refine ⟨fun h => ?_, fun h => ?_⟩
  · have h1 : k < a.length := by omega
    have h2 : k < b.length := by omega
    rw [drop_at (d := 0) h1, drop_at (d := 0) h2] at he
    obtain ⟨x, hx⟩ : ∃ x, a.getD k 0 = x := ⟨_, rfl⟩
    obtain ⟨c, hc⟩ : ∃ c, b.getD k 0 = c := ⟨_, rfl⟩
    rw [hx, hc] at he
    simp only [hx, hc]
    simp only [List.cons.injEq] at he
    refine ⟨by omega, by omega, fun h3 => ?_, fun h3 => ⟨by omega, k + 1, ⟨by omega, ?_⟩, by omega, ⟨rfl, rfl, rfl⟩, rfl⟩⟩
    · refine finK_of 0 rfl rfl ⟨?_, rfl⟩
      have : a ≠ b := fun e => h3 (he.1 e).1
      rw [decide_eq_false this]; rfl
    · rw [he]
      simp [h3]
  · have h1 : a.length ≤ k := by omega
    have h2 : b.length ≤ k := by omega
    refine finK_of 0 rfl rfl ⟨?_, rfl⟩
    rw [List.drop_eq_nil_of_le h1, List.drop_eq_nil_of_le h2] at he
    rw [decide_eq_true (he.2 rfl)]; rfl

/-- digits from behind, and what is left -/
def digs : List Int → Int → List Int × Int
  | [], i => ([], i)
  | c :: r, i => ((digs r i).2.tmod c :: (digs r i).1, (digs r i).2.tdiv c)

theorem digs_length : ∀ (cs : List Int) (i : Int), (digs cs i).1.length = cs.length
  | [], _ => rfl
  | c :: r, i => by simp [digs, digs_length r i]

theorem digs_left {i : Int} (hi : 0 ≤ i) : ∀ (cs : List Int), (∀ c ∈ cs, 1 ≤ c) → 0 ≤ (digs cs i).2 ∧ (digs cs i).2 ≤ i
  | [], _ => ⟨hi, Int.le_refl _⟩
  | c :: r, h => by
    obtain ⟨h1, h2⟩ := digs_left hi r (fun x hx => h x (by simp [hx]))
    have hc := h c (by simp)
    simp only [digs]
    refine ⟨Int.tdiv_nonneg h1 (by omega), ?_⟩
    rw [Int.tdiv_eq_ediv_of_nonneg h1]
    exact Int.le_trans (Int.ediv_le_self _ h1) h2

def zer (n : Nat) : List Int := List.replicate n 0
theorem zer_length (n : Nat) : (zer n).length = n := by simp [zer]
theorem set_zer {y : Int} {D : List Int} (k : Nat) : (zer (k + 1) ++ D).set k y = zer k ++ (y :: D) := by
  unfold zer
  induction k with
  | zero => rfl
  | succ k ih => rw [List.replicate_succ, List.cons_append, List.set_cons_succ, ih]; rfl

theorem refvalues_vc (cards : List Int) (i : Int) (hn : cards.length ≤ 100000) (hc : ∀ c ∈ cards, 1 ≤ c) (hi : 0 ≤ i ∧ i ≤ 9223372036854775807) : VCalls Try.prog 21 [IL cards, I i] [] (fun v fr => v = .slc 0 cards.length 0 cards.length ∧ fr = [.seq (.int .i64) (digs cards i).1 true]) := by
  refine vcalls_fn hmix h21 rfl ?_
  simp -implicitDefEqProofs only [c21, vnD_mk, vopsD_nil, vopsD_one, vopsD_grd, vgD_true, vgD_false, vgD_dec, vgD_und, det_ret, det_nd, det_fail, det_br, awp_skip, awp_ret, awp_exit, awp_seq, awp_block, awp_loop, awp_reg, regK_mk, awp_regD, regD_mk, awp_cond, condW_dec, condW_not, condW_true, condW_false, thn_n, thn_x, thn_r, brk_n, brk_r, brk_x, vnext_mk, vops_nil, vops_one, vops_grd, vgd_true, vgd_false, vgd_dec, vgd_not, vgd_und, sem_ret, sem_nd, sem_fail, sem_br, bind_ret, bind_nd, bind_fail, bind_br, ofOpt_some, ofOpt_none, finW_n, finW_r, outMarks_nil, vop, ev, evL, getT, setT, putT, binV, binI, binB, shiftI, kEq, unV, negI, convV, lenV, lenSV, bnd, getR, sliceOf, castD_self, rng, enumT, okCells, cellsV, cellsD, fillV, fillS, cv, cvC, cvS, cvL, cvU, Ty.size, Ty.isAgg, Ty.dflt, elems, appV, mkI, mmI, NatBeq, NatBlt, NatBle, Nat.reduceBEq, Nat.reduceLT, Nat.reduceLeDiff, Nat.reduceAdd, Nat.reduceSub, Nat.reduceMul, Nat.reduceEqDiff, decide_true, decide_false, List.length_cons, List.length_nil, List.nil_append, List.cons_append, List.append_nil, List.getElem?_cons_zero, List.getElem?_cons_succ, List.take_zero, List.set_cons_zero, List.set_cons_succ, true_implies, false_implies, forall_const, and_true, true_and, and_self, Bool.false_eq_true, reduceCtorEq, if_false, if_true, ↓reduceIte, decide_eq_true_eq, decide_eq_false_iff_not, Bool.not_true, Bool.not_false, not_true_eq_false, not_false_eq_true, Int.reduceEq, Int.reduceLT, Int.reduceLE, Int.reduceNe, Int.reduceAdd, Int.reduceSub, Int.reduceMul, Int.reduceToNat, subL_cons, subL_zero, List.replicate_succ, List.replicate_zero, Nat.zero_add, Nat.mul_one, Nat.one_mul, List.isEmpty_cons, List.isEmpty_nil, splice, rangeEnd, endF, shA, shAs, shB, shRowB, setTs, bodyW, roundW, endRoundW, outMarks_cons, noDfr, fillD]
  simp only [Int.toNat_natCast, two47, inR]
  refine ⟨by omega, by omega, ?_⟩
  refine loop_rule (α := Nat) (fun j => ⟨[(6, I ((j : Int) - 1)), (5, .slc 0 cards.length 0 cards.length), (1, I (digs (cards.drop j) i).2), (0, IL cards)], [.seq (.int .i64) (zer j ++ (digs (cards.drop j) i).1) true], []⟩) (fun j => j ≤ cards.length) (fun j => j)
    [6, 5, 1, 0] 1 cards.length rfl ⟨rfl, rfl, rfl⟩ ?_ (by omega) ?_
  · rw [List.drop_length, show (digs [] i).1 = [] from rfl, List.append_nil]; rfl
  intro j hj
  cases j with
  | zero =>
    simp -implicitDefEqProofs only [c21L0, vnD_mk, vopsD_nil, vopsD_one, vopsD_grd, vgD_true, vgD_false, vgD_dec, vgD_und, det_ret, det_nd, det_fail, det_br, awp_skip, awp_ret, awp_exit, awp_seq, awp_block, awp_loop, awp_reg, regK_mk, awp_regD, regD_mk, awp_cond, condW_dec, condW_not, condW_true, condW_false, thn_n, thn_x, thn_r, brk_n, brk_r, brk_x, vnext_mk, vops_nil, vops_one, vops_grd, vgd_true, vgd_false, vgd_dec, vgd_not, vgd_und, sem_ret, sem_nd, sem_fail, sem_br, bind_ret, bind_nd, bind_fail, bind_br, ofOpt_some, ofOpt_none, finW_n, finW_r, outMarks_nil, vop, ev, evL, getT, setT, putT, binV, binI, binB, shiftI, kEq, unV, negI, convV, lenV, lenSV, bnd, getR, sliceOf, castD_self, rng, enumT, okCells, cellsV, cellsD, fillV, fillS, cv, cvC, cvS, cvL, cvU, Ty.size, Ty.isAgg, Ty.dflt, elems, appV, mkI, mmI, NatBeq, NatBlt, NatBle, Nat.reduceBEq, Nat.reduceLT, Nat.reduceLeDiff, Nat.reduceAdd, Nat.reduceSub, Nat.reduceMul, Nat.reduceEqDiff, decide_true, decide_false, List.length_cons, List.length_nil, List.nil_append, List.cons_append, List.append_nil, List.getElem?_cons_zero, List.getElem?_cons_succ, List.take_zero, List.set_cons_zero, List.set_cons_succ, true_implies, false_implies, forall_const, and_true, true_and, and_self, Bool.false_eq_true, reduceCtorEq, if_false, if_true, ↓reduceIte, decide_eq_true_eq, decide_eq_false_iff_not, Bool.not_true, Bool.not_false, not_true_eq_false, not_false_eq_true, Int.reduceEq, Int.reduceLT, Int.reduceLE, Int.reduceNe, Int.reduceAdd, Int.reduceSub, Int.reduceMul, Int.reduceToNat, subL_cons, subL_zero, List.replicate_succ, List.replicate_zero, Nat.zero_add, Nat.mul_one, Nat.one_mul, List.isEmpty_cons, List.isEmpty_nil, splice, rangeEnd, endF, shA, shAs, shB, shRowB, setTs, bodyW, roundW, endRoundW, outMarks_cons, noDfr, fillD]
    refine ⟨fun h => absurd h (by decide), fun h => finK_of 1 rfl rfl ⟨rfl, rfl⟩⟩
  | succ k =>
    have e : ((k + 1 : Nat) : Int) - 1 = k := by omega
    simp only [e]
    simp -implicitDefEqProofs only [c21L0, vnD_mk, vopsD_nil, vopsD_one, vopsD_grd, vgD_true, vgD_false, vgD_dec, vgD_und, det_ret, det_nd, det_fail, det_br, awp_skip, awp_ret, awp_exit, awp_seq, awp_block, awp_loop, awp_reg, regK_mk, awp_regD, regD_mk, awp_cond, condW_dec, condW_not, condW_true, condW_false, thn_n, thn_x, thn_r, brk_n, brk_r, brk_x, vnext_mk, vops_nil, vops_one, vops_grd, vgd_true, vgd_false, vgd_dec, vgd_not, vgd_und, sem_ret, sem_nd, sem_fail, sem_br, bind_ret, bind_nd, bind_fail, bind_br, ofOpt_some, ofOpt_none, finW_n, finW_r, outMarks_nil, vop, ev, evL, getT, setT, putT, binV, binI, binB, shiftI, kEq, unV, negI, convV, lenV, lenSV, bnd, getR, sliceOf, castD_self, rng, enumT, okCells, cellsV, cellsD, fillV, fillS, cv, cvC, cvS, cvL, cvU, Ty.size, Ty.isAgg, Ty.dflt, elems, appV, mkI, mmI, NatBeq, NatBlt, NatBle, Nat.reduceBEq, Nat.reduceLT, Nat.reduceLeDiff, Nat.reduceAdd, Nat.reduceSub, Nat.reduceMul, Nat.reduceEqDiff, decide_true, decide_false, List.length_cons, List.length_nil, List.nil_append, List.cons_append, List.append_nil, List.getElem?_cons_zero, List.getElem?_cons_succ, List.take_zero, List.set_cons_zero, List.set_cons_succ, true_implies, false_implies, forall_const, and_true, true_and, and_self, Bool.false_eq_true, reduceCtorEq, if_false, if_true, ↓reduceIte, decide_eq_true_eq, decide_eq_false_iff_not, Bool.not_true, Bool.not_false, not_true_eq_false, not_false_eq_true, Int.reduceEq, Int.reduceLT, Int.reduceLE, Int.reduceNe, Int.reduceAdd, Int.reduceSub, Int.reduceMul, Int.reduceToNat, subL_cons, subL_zero, List.replicate_succ, List.replicate_zero, Nat.zero_add, Nat.mul_one, Nat.one_mul, List.isEmpty_cons, List.isEmpty_nil, splice, rangeEnd, endF, shA, shAs, shB, shRowB, setTs, bodyW, roundW, endRoundW, outMarks_cons, noDfr, fillD]
    simp only [Int.toNat_natCast, inR]
    refine ⟨fun h => ?_, fun h => by omega⟩
    have hk : k < cards.length := by omega
    have hlr : (zer (k + 1) ++ (digs (List.drop (k + 1) cards) i).1).length = cards.length := by
      rw [List.length_append, zer_length, digs_length, List.length_drop]; omega
    have hm : cards.getD k 0 ∈ cards := by
      have : cards.getD k 0 = cards[k] := by simp [hk]
      rw [this]; exact List.getElem_mem hk
    have hc1 := hc _ hm
    have hd : digs (cards.drop k) i = ((digs (cards.drop (k + 1)) i).2.tmod (cards.getD k 0) :: (digs (cards.drop (k + 1)) i).1, (digs (cards.drop (k + 1)) i).2.tdiv (cards.getD k 0)) := by
      rw [drop_at (d := 0) hk]; rfl
    have hq := digs_left hi.1 (cards.drop k) (fun c h => hc c (List.mem_of_mem_drop h))
    rw [hd] at hq
    simp only at hq
    refine ⟨by omega, by omega, by omega, hlr, ⟨hlr, by omega⟩, by omega, ⟨by omega, by omega⟩, by omega, k, by omega, by omega, ⟨rfl, rfl, rfl⟩, ?_⟩
    rw [set_zer, hd]
    rfl
end Go.Proofs.Ytcplbmlebogffaa

namespace Go.Proofs.Ytcplbmlebogffaa
open Go GoV
set_option maxHeartbeats 2000000

/-- a list that was begun as nil and appended to, one by one -/
def apA : List Int → AV
  | [] => .nils
  | p :: r => .slc 1 (p :: r).length 0 (p :: r).length
def apH : List Int → Heap
  | [] => []
  | p :: r => [.seq (.int .i64) [p] true, .seq (.int .i64) (p :: r) false]

theorem take_step {l : List Int} {k : Nat} (h : k < l.length) : l.take (k + 1) = l.take k ++ [l.getD k 0] := by
  rw [List.take_add_one]; simp [h]

theorem at_vc (l places : List Int) (hn : places.length ≤ 100000) (hp : ∀ k ∈ places, 0 ≤ k ∧ k < l.length) : VCalls Try.prog 28 [IL l, IL places] [] (fun v fr => v = apA (pickL l places) ∧ fr = apH (pickL l places)) := by
  refine vcalls_fn hmix h28 rfl ?_
  have hlen : (pickL l places).length = places.length := by simp [pickL]
  simp -implicitDefEqProofs only [c28, vnD_mk, vopsD_nil, vopsD_one, vopsD_grd, vgD_true, vgD_false, vgD_dec, vgD_und, det_ret, det_nd, det_fail, det_br, awp_skip, awp_ret, awp_exit, awp_seq, awp_block, awp_loop, awp_reg, regK_mk, awp_regD, regD_mk, awp_cond, condW_dec, condW_not, condW_true, condW_false, thn_n, thn_x, thn_r, brk_n, brk_r, brk_x, vnext_mk, vops_nil, vops_one, vops_grd, vgd_true, vgd_false, vgd_dec, vgd_not, vgd_und, sem_ret, sem_nd, sem_fail, sem_br, bind_ret, bind_nd, bind_fail, bind_br, ofOpt_some, ofOpt_none, finW_n, finW_r, outMarks_nil, vop, ev, evL, getT, setT, putT, binV, binI, binB, shiftI, kEq, unV, negI, convV, lenV, lenSV, bnd, getR, sliceOf, castD_self, rng, enumT, okCells, cellsV, cellsD, fillV, fillS, cv, cvC, cvS, cvL, cvU, Ty.size, Ty.isAgg, Ty.dflt, elems, appV, mkI, mmI, NatBeq, NatBlt, NatBle, Nat.reduceBEq, Nat.reduceLT, Nat.reduceLeDiff, Nat.reduceAdd, Nat.reduceSub, Nat.reduceMul, Nat.reduceEqDiff, decide_true, decide_false, List.length_cons, List.length_nil, List.nil_append, List.cons_append, List.append_nil, List.getElem?_cons_zero, List.getElem?_cons_succ, List.take_zero, List.set_cons_zero, List.set_cons_succ, true_implies, false_implies, forall_const, and_true, true_and, and_self, Bool.false_eq_true, reduceCtorEq, if_false, if_true, ↓reduceIte, decide_eq_true_eq, decide_eq_false_iff_not, Bool.not_true, Bool.not_false, not_true_eq_false, not_false_eq_true, Int.reduceEq, Int.reduceLT, Int.reduceLE, Int.reduceNe, Int.reduceAdd, Int.reduceSub, Int.reduceMul, Int.reduceToNat, subL_cons, subL_zero, List.replicate_succ, List.replicate_zero, Nat.zero_add, Nat.mul_one, Nat.one_mul, List.isEmpty_cons, List.isEmpty_nil, splice, rangeEnd, endF, shA, shAs, shB, shRowB, setTs, bodyW, roundW, endRoundW, outMarks_cons, noDfr, fillD]
  refine loop_rule (α := Nat × Nat) (fun a => ⟨[(6, I a.1), (5, apA ((pickL l places).take a.1)), (1, IL places), (0, IL l)], apH ((pickL l places).take a.1), []⟩) (fun a => a.1 ≤ places.length ∧ a.2 = if a.1 = 0 then 0 else 2) (fun a => places.length - a.1)
    [6, 5, 1, 0] 2 (0, 0) rfl ⟨rfl, rfl, rfl⟩ rfl ⟨by simp only; omega, rfl⟩ ?_
  rintro ⟨k, z⟩ ⟨hk, hz⟩
  simp only at hk
  have hxs : ∀ (h : k < places.length), (0 ≤ places.getD k 0 ∧ places.getD k 0 < l.length) ∧ (pickL l places).getD k 0 = l.getD (Int.toNat (places.getD k 0)) 0 := by
    intro h
    have : places.getD k 0 = places[k] := by simp [h]
    rw [this]
    exact ⟨hp _ (List.getElem_mem h), by simp [pickL, h]⟩
  cases hq : (pickL l places).take k with
  | nil =>
    have e1 : apA [] = .nils := rfl
    have e2 : apH [] = [] := rfl
    simp only [e1, e2]
    simp -implicitDefEqProofs only [c28L0, vnD_mk, vopsD_nil, vopsD_one, vopsD_grd, vgD_true, vgD_false, vgD_dec, vgD_und, det_ret, det_nd, det_fail, det_br, awp_skip, awp_ret, awp_exit, awp_seq, awp_block, awp_loop, awp_reg, regK_mk, awp_regD, regD_mk, awp_cond, condW_dec, condW_not, condW_true, condW_false, thn_n, thn_x, thn_r, brk_n, brk_r, brk_x, vnext_mk, vops_nil, vops_one, vops_grd, vgd_true, vgd_false, vgd_dec, vgd_not, vgd_und, sem_ret, sem_nd, sem_fail, sem_br, bind_ret, bind_nd, bind_fail, bind_br, ofOpt_some, ofOpt_none, finW_n, finW_r, outMarks_nil, vop, ev, evL, getT, setT, putT, binV, binI, binB, shiftI, kEq, unV, negI, convV, lenV, lenSV, bnd, getR, sliceOf, castD_self, rng, enumT, okCells, cellsV, cellsD, fillV, fillS, cv, cvC, cvS, cvL, cvU, Ty.size, Ty.isAgg, Ty.dflt, elems, appV, mkI, mmI, NatBeq, NatBlt, NatBle, Nat.reduceBEq, Nat.reduceLT, Nat.reduceLeDiff, Nat.reduceAdd, Nat.reduceSub, Nat.reduceMul, Nat.reduceEqDiff, decide_true, decide_false, List.length_cons, List.length_nil, List.nil_append, List.cons_append, List.append_nil, List.getElem?_cons_zero, List.getElem?_cons_succ, List.take_zero, List.set_cons_zero, List.set_cons_succ, true_implies, false_implies, forall_const, and_true, true_and, and_self, Bool.false_eq_true, reduceCtorEq, if_false, if_true, ↓reduceIte, decide_eq_true_eq, decide_eq_false_iff_not, Bool.not_true, Bool.not_false, not_true_eq_false, not_false_eq_true, Int.reduceEq, Int.reduceLT, Int.reduceLE, Int.reduceNe, Int.reduceAdd, Int.reduceSub, Int.reduceMul, Int.reduceToNat, subL_cons, subL_zero, List.replicate_succ, List.replicate_zero, Nat.zero_add, Nat.mul_one, Nat.one_mul, List.isEmpty_cons, List.isEmpty_nil, splice, rangeEnd, endF, shA, shAs, shB, shRowB, setTs, bodyW, roundW, endRoundW, outMarks_cons, noDfr, fillD]
    simp only [Int.toNat_natCast, inR, two47]
    refine ⟨fun h => ?_, fun h => ?_⟩
    · have h1 : k < places.length := by omega
      obtain ⟨hx, hy⟩ := hxs h1
      have ht := take_step (l := pickL l places) (k := k) (by omega)
      rw [hq, hy] at ht
      refine ⟨by omega, hx, by omega, by omega, (k + 1, 2), ⟨by simp only; omega, rfl⟩, by simp only; omega, ⟨rfl, rfl, rfl⟩, ?_⟩
      simp only [ht]
      rfl
    · refine finK_of 0 rfl rfl ?_
      have : (pickL l places).take k = pickL l places := List.take_of_length_le (by omega)
      rw [this] at hq
      rw [hq]
      exact ⟨rfl, rfl⟩
  | cons p r =>
    have e1 : apA (p :: r) = .slc 1 (p :: r).length 0 (p :: r).length := rfl
    have e2 : apH (p :: r) = [.seq (.int .i64) [p] true, .seq (.int .i64) (p :: r) false] := rfl
    have hkl : (p :: r).length ≤ 100000 := by rw [← hq, List.length_take]; omega
    simp only [e1, e2]
    simp -implicitDefEqProofs only [c28L0, vnD_mk, vopsD_nil, vopsD_one, vopsD_grd, vgD_true, vgD_false, vgD_dec, vgD_und, det_ret, det_nd, det_fail, det_br, awp_skip, awp_ret, awp_exit, awp_seq, awp_block, awp_loop, awp_reg, regK_mk, awp_regD, regD_mk, awp_cond, condW_dec, condW_not, condW_true, condW_false, thn_n, thn_x, thn_r, brk_n, brk_r, brk_x, vnext_mk, vops_nil, vops_one, vops_grd, vgd_true, vgd_false, vgd_dec, vgd_not, vgd_und, sem_ret, sem_nd, sem_fail, sem_br, bind_ret, bind_nd, bind_fail, bind_br, ofOpt_some, ofOpt_none, finW_n, finW_r, outMarks_nil, vop, ev, evL, getT, setT, putT, binV, binI, binB, shiftI, kEq, unV, negI, convV, lenV, lenSV, bnd, getR, sliceOf, castD_self, rng, enumT, okCells, cellsV, cellsD, fillV, fillS, cv, cvC, cvS, cvL, cvU, Ty.size, Ty.isAgg, Ty.dflt, elems, appV, mkI, mmI, NatBeq, NatBlt, NatBle, Nat.reduceBEq, Nat.reduceLT, Nat.reduceLeDiff, Nat.reduceAdd, Nat.reduceSub, Nat.reduceMul, Nat.reduceEqDiff, decide_true, decide_false, List.length_cons, List.length_nil, List.nil_append, List.cons_append, List.append_nil, List.getElem?_cons_zero, List.getElem?_cons_succ, List.take_zero, List.set_cons_zero, List.set_cons_succ, true_implies, false_implies, forall_const, and_true, true_and, and_self, Bool.false_eq_true, reduceCtorEq, if_false, if_true, ↓reduceIte, decide_eq_true_eq, decide_eq_false_iff_not, Bool.not_true, Bool.not_false, not_true_eq_false, not_false_eq_true, Int.reduceEq, Int.reduceLT, Int.reduceLE, Int.reduceNe, Int.reduceAdd, Int.reduceSub, Int.reduceMul, Int.reduceToNat, subL_cons, subL_zero, List.replicate_succ, List.replicate_zero, Nat.zero_add, Nat.mul_one, Nat.one_mul, List.isEmpty_cons, List.isEmpty_nil, splice, rangeEnd, endF, shA, shAs, shB, shRowB, setTs, bodyW, roundW, endRoundW, outMarks_cons, noDfr, fillD]
    simp only [Int.toNat_natCast, inR, two47]
    simp only [List.length_cons] at hkl
    refine ⟨fun h => ?_, fun h => ?_⟩
    · have h1 : k < places.length := by omega
      obtain ⟨hx, hy⟩ := hxs h1
      have ht := take_step (l := pickL l places) (k := k) (by omega)
      rw [hq, hy] at ht
      refine ⟨by omega, hx, Nat.le_refl _, by omega, by omega, (k + 1, 2), ⟨by simp only; omega, rfl⟩, by simp only; omega, ⟨rfl, rfl, rfl⟩, ?_⟩
      simp only [ht]
      rfl
    · refine finK_of 2 rfl rfl ?_
      have : (pickL l places).take k = pickL l places := List.take_of_length_le (by omega)
      rw [this] at hq
      rw [hq]
      exact ⟨rfl, rfl⟩
end Go.Proofs.Ytcplbmlebogffaa

namespace Go.Proofs.Ytcplbmlebogffaa
open Go GoV
set_option maxHeartbeats 2000000

/-- the number, and the unit, from behind -/
def idxR : List Int → List Int → Int × Int
  | c :: cs, v :: vs => ((idxR cs vs).1 + v * (idxR cs vs).2, (idxR cs vs).2 * c)
  | _, _ => (0, 1)

theorem sizeL_drop {n : Int} : ∀ (j : Nat) (cs : List Int) (s : Int), (1 ≤ s ∧ s ≤ 4096) → sizeL cs s = some n → ∃ s', (1 ≤ s' ∧ s' ≤ 4096) ∧ sizeL (cs.drop j) s' = some n
  | 0, cs, s, hs, h => ⟨s, hs, h⟩
  | j + 1, [], s, hs, h => ⟨s, hs, h⟩
  | j + 1, c :: r, s, hs, h => by
    obtain ⟨h1, h2, h3⟩ := sizeL_pos h
    have h4 : 1 * 1 ≤ s * c := Int.mul_le_mul (by omega) (by omega) (by omega) (by omega)
    exact sizeL_drop j r (s * c) ⟨by omega, h2⟩ h3

theorem withinL_drop : ∀ (j : Nat) (vs cs : List Int), withinL vs cs = true → withinL (vs.drop j) (cs.drop j) = true
  | 0, _, _, h => h
  | j + 1, [], [], _ => rfl
  | j + 1, v :: vs, c :: cs, h => by
    simp only [withinL, Bool.and_eq_true] at h
    exact withinL_drop j vs cs h.2
  | j + 1, [], _ :: _, h => by cases h
  | j + 1, _ :: _, [], h => by cases h

theorem idxR_bound {n : Int} : ∀ (cs vs : List Int) (s : Int), (1 ≤ s ∧ s ≤ 4096) → sizeL cs s = some n → withinL vs cs = true → (1 ≤ (idxR cs vs).2 ∧ s * (idxR cs vs).2 ≤ 4096) ∧ 0 ≤ (idxR cs vs).1 ∧ (idxR cs vs).1 < (idxR cs vs).2
  | [], [], s, hs, _, _ => by simp only [idxR]; omega
  | c :: cs, v :: vs, s, hs, h, hw => by
    obtain ⟨h1, h2, h3⟩ := sizeL_pos h
    simp only [withinL, Bool.and_eq_true, decide_eq_true_eq] at hw
    have h4 : 1 * 1 ≤ s * c := Int.mul_le_mul (by omega) (by omega) (by omega) (by omega)
    obtain ⟨⟨k1, k2⟩, k3, k4⟩ := idxR_bound cs vs (s * c) ⟨by omega, h2⟩ h3 hw.2
    simp only [idxR]
    generalize (idxR cs vs).1 = i at *
    generalize (idxR cs vs).2 = u at *
    have e1 : s * (u * c) = s * c * u := by rw [Int.mul_comm u c, Int.mul_assoc]
    have e2 : 1 * 1 ≤ u * c := Int.mul_le_mul k1 (by omega) (by omega) (by omega)
    have e3 : 0 ≤ v * u := Int.mul_nonneg (by omega) (by omega)
    have e4 : v * u ≤ (c - 1) * u := Int.mul_le_mul_of_nonneg_right (by omega) (by omega)
    have e5 : (c - 1) * u = u * c - u := by rw [Int.sub_mul, Int.mul_comm c u, Int.one_mul]
    refine ⟨⟨by omega, by rw [e1]; exact k2⟩, by omega, by omega⟩
  | [], _ :: _, _, _, _, hw => by cases hw
  | _ :: _, [], _, _, _, hw => by cases hw

theorem withinL_len {vs cs : List Int} (h : withinL vs cs = true) : vs.length = cs.length := by
  by_cases e : vs.length = cs.length
  · exact e
  · rw [withinL_ne _ _ e] at h; cases h

theorem refindex_vc (cards vals : List Int) (n : Int) (hn : sizeL cards 1 = some n) (hl : cards.length ≤ 100000) (hw : withinL vals cards = true) : VCalls Try.prog 25 [IL cards, IL vals] [] (fun v fr => v = I (idxR cards vals).1 ∧ fr = []) := by
  refine vcalls_fn hmix h25 rfl ?_
  have hlen := withinL_len hw
  simp -implicitDefEqProofs only [c25, vnD_mk, vopsD_nil, vopsD_one, vopsD_grd, vgD_true, vgD_false, vgD_dec, vgD_und, det_ret, det_nd, det_fail, det_br, awp_skip, awp_ret, awp_exit, awp_seq, awp_block, awp_loop, awp_reg, regK_mk, awp_regD, regD_mk, awp_cond, condW_dec, condW_not, condW_true, condW_false, thn_n, thn_x, thn_r, brk_n, brk_r, brk_x, vnext_mk, vops_nil, vops_one, vops_grd, vgd_true, vgd_false, vgd_dec, vgd_not, vgd_und, sem_ret, sem_nd, sem_fail, sem_br, bind_ret, bind_nd, bind_fail, bind_br, ofOpt_some, ofOpt_none, finW_n, finW_r, outMarks_nil, vop, ev, evL, getT, setT, putT, binV, binI, binB, shiftI, kEq, unV, negI, convV, lenV, lenSV, bnd, getR, sliceOf, castD_self, rng, enumT, okCells, cellsV, cellsD, fillV, fillS, cv, cvC, cvS, cvL, cvU, Ty.size, Ty.isAgg, Ty.dflt, elems, appV, mkI, mmI, NatBeq, NatBlt, NatBle, Nat.reduceBEq, Nat.reduceLT, Nat.reduceLeDiff, Nat.reduceAdd, Nat.reduceSub, Nat.reduceMul, Nat.reduceEqDiff, decide_true, decide_false, List.length_cons, List.length_nil, List.nil_append, List.cons_append, List.append_nil, List.getElem?_cons_zero, List.getElem?_cons_succ, List.take_zero, List.set_cons_zero, List.set_cons_succ, true_implies, false_implies, forall_const, and_true, true_and, and_self, Bool.false_eq_true, reduceCtorEq, if_false, if_true, ↓reduceIte, decide_eq_true_eq, decide_eq_false_iff_not, Bool.not_true, Bool.not_false, not_true_eq_false, not_false_eq_true, Int.reduceEq, Int.reduceLT, Int.reduceLE, Int.reduceNe, Int.reduceAdd, Int.reduceSub, Int.reduceMul, Int.reduceToNat, subL_cons, subL_zero, List.replicate_succ, List.replicate_zero, Nat.zero_add, Nat.mul_one, Nat.one_mul, List.isEmpty_cons, List.isEmpty_nil, splice, rangeEnd, endF, shA, shAs, shB, shRowB, setTs, bodyW, roundW, endRoundW, outMarks_cons, noDfr, fillD]
  simp only [inR]
  refine ⟨by omega, ?_⟩
  refine loop_rule (α := Nat) (fun j => ⟨[(7, I ((j : Int) - 1)), (6, I (idxR (cards.drop j) (vals.drop j)).2), (5, I (idxR (cards.drop j) (vals.drop j)).1), (1, IL vals), (0, IL cards)], [], []⟩) (fun j => j ≤ cards.length) (fun j => j)
    [7, 6, 5, 1, 0] 0 cards.length rfl ⟨rfl, rfl, rfl⟩ ?_ (by omega) ?_
  · rw [List.drop_length, show idxR [] (List.drop cards.length vals) = (0, 1) from by cases List.drop cards.length vals <;> rfl]; rfl
  intro j hj
  cases j with
  | zero =>
    simp -implicitDefEqProofs only [c25L0, vnD_mk, vopsD_nil, vopsD_one, vopsD_grd, vgD_true, vgD_false, vgD_dec, vgD_und, det_ret, det_nd, det_fail, det_br, awp_skip, awp_ret, awp_exit, awp_seq, awp_block, awp_loop, awp_reg, regK_mk, awp_regD, regD_mk, awp_cond, condW_dec, condW_not, condW_true, condW_false, thn_n, thn_x, thn_r, brk_n, brk_r, brk_x, vnext_mk, vops_nil, vops_one, vops_grd, vgd_true, vgd_false, vgd_dec, vgd_not, vgd_und, sem_ret, sem_nd, sem_fail, sem_br, bind_ret, bind_nd, bind_fail, bind_br, ofOpt_some, ofOpt_none, finW_n, finW_r, outMarks_nil, vop, ev, evL, getT, setT, putT, binV, binI, binB, shiftI, kEq, unV, negI, convV, lenV, lenSV, bnd, getR, sliceOf, castD_self, rng, enumT, okCells, cellsV, cellsD, fillV, fillS, cv, cvC, cvS, cvL, cvU, Ty.size, Ty.isAgg, Ty.dflt, elems, appV, mkI, mmI, NatBeq, NatBlt, NatBle, Nat.reduceBEq, Nat.reduceLT, Nat.reduceLeDiff, Nat.reduceAdd, Nat.reduceSub, Nat.reduceMul, Nat.reduceEqDiff, decide_true, decide_false, List.length_cons, List.length_nil, List.nil_append, List.cons_append, List.append_nil, List.getElem?_cons_zero, List.getElem?_cons_succ, List.take_zero, List.set_cons_zero, List.set_cons_succ, true_implies, false_implies, forall_const, and_true, true_and, and_self, Bool.false_eq_true, reduceCtorEq, if_false, if_true, ↓reduceIte, decide_eq_true_eq, decide_eq_false_iff_not, Bool.not_true, Bool.not_false, not_true_eq_false, not_false_eq_true, Int.reduceEq, Int.reduceLT, Int.reduceLE, Int.reduceNe, Int.reduceAdd, Int.reduceSub, Int.reduceMul, Int.reduceToNat, subL_cons, subL_zero, List.replicate_succ, List.replicate_zero, Nat.zero_add, Nat.mul_one, Nat.one_mul, List.isEmpty_cons, List.isEmpty_nil, splice, rangeEnd, endF, shA, shAs, shB, shRowB, setTs, bodyW, roundW, endRoundW, outMarks_cons, noDfr, fillD]
    refine ⟨fun h => absurd h (by decide), fun h => finK_of 0 rfl rfl ⟨rfl, rfl⟩⟩
  | succ k =>
    have e : ((k + 1 : Nat) : Int) - 1 = k := by omega
    simp only [e]
    simp -implicitDefEqProofs only [c25L0, vnD_mk, vopsD_nil, vopsD_one, vopsD_grd, vgD_true, vgD_false, vgD_dec, vgD_und, det_ret, det_nd, det_fail, det_br, awp_skip, awp_ret, awp_exit, awp_seq, awp_block, awp_loop, awp_reg, regK_mk, awp_regD, regD_mk, awp_cond, condW_dec, condW_not, condW_true, condW_false, thn_n, thn_x, thn_r, brk_n, brk_r, brk_x, vnext_mk, vops_nil, vops_one, vops_grd, vgd_true, vgd_false, vgd_dec, vgd_not, vgd_und, sem_ret, sem_nd, sem_fail, sem_br, bind_ret, bind_nd, bind_fail, bind_br, ofOpt_some, ofOpt_none, finW_n, finW_r, outMarks_nil, vop, ev, evL, getT, setT, putT, binV, binI, binB, shiftI, kEq, unV, negI, convV, lenV, lenSV, bnd, getR, sliceOf, castD_self, rng, enumT, okCells, cellsV, cellsD, fillV, fillS, cv, cvC, cvS, cvL, cvU, Ty.size, Ty.isAgg, Ty.dflt, elems, appV, mkI, mmI, NatBeq, NatBlt, NatBle, Nat.reduceBEq, Nat.reduceLT, Nat.reduceLeDiff, Nat.reduceAdd, Nat.reduceSub, Nat.reduceMul, Nat.reduceEqDiff, decide_true, decide_false, List.length_cons, List.length_nil, List.nil_append, List.cons_append, List.append_nil, List.getElem?_cons_zero, List.getElem?_cons_succ, List.take_zero, List.set_cons_zero, List.set_cons_succ, true_implies, false_implies, forall_const, and_true, true_and, and_self, Bool.false_eq_true, reduceCtorEq, if_false, if_true, ↓reduceIte, decide_eq_true_eq, decide_eq_false_iff_not, Bool.not_true, Bool.not_false, not_true_eq_false, not_false_eq_true, Int.reduceEq, Int.reduceLT, Int.reduceLE, Int.reduceNe, Int.reduceAdd, Int.reduceSub, Int.reduceMul, Int.reduceToNat, subL_cons, subL_zero, List.replicate_succ, List.replicate_zero, Nat.zero_add, Nat.mul_one, Nat.one_mul, List.isEmpty_cons, List.isEmpty_nil, splice, rangeEnd, endF, shA, shAs, shB, shRowB, setTs, bodyW, roundW, endRoundW, outMarks_cons, noDfr, fillD]
    simp only [Int.toNat_natCast, inR]
    refine ⟨fun h => ?_, fun h => by omega⟩
    have hk : k < cards.length := by omega
    have hk' : k < vals.length := by omega
    obtain ⟨s, hs, hz⟩ := sizeL_drop k cards 1 (by omega) hn
    have hwk := withinL_drop k vals cards hw
    have hb := idxR_bound _ _ s hs hz hwk
    obtain ⟨s2, hs2, hz2⟩ := sizeL_drop (k + 1) cards 1 (by omega) hn
    have hb2 := idxR_bound _ _ s2 hs2 hz2 (withinL_drop (k + 1) vals cards hw)
    have hd : idxR (cards.drop k) (vals.drop k) = ((idxR (cards.drop (k + 1)) (vals.drop (k + 1))).1 + vals.getD k 0 * (idxR (cards.drop (k + 1)) (vals.drop (k + 1))).2, (idxR (cards.drop (k + 1)) (vals.drop (k + 1))).2 * cards.getD k 0) := by
      rw [drop_at (d := 0) hk, drop_at (d := 0) hk']; rfl
    rw [hd] at hb
    simp only at hb
    obtain ⟨i, hi⟩ : ∃ i, (idxR (cards.drop (k + 1)) (vals.drop (k + 1))).1 = i := ⟨_, rfl⟩
    obtain ⟨u, hu⟩ : ∃ u, (idxR (cards.drop (k + 1)) (vals.drop (k + 1))).2 = u := ⟨_, rfl⟩
    obtain ⟨v, hv⟩ : ∃ v, vals.getD k 0 = v := ⟨_, rfl⟩
    obtain ⟨c, hc⟩ : ∃ c, cards.getD k 0 = c := ⟨_, rfl⟩
    have b1 : 1 * (u * c) ≤ s * (u * c) := Int.mul_le_mul_of_nonneg_right (by omega) (by rw [hu, hc] at hb; omega)
    have b2 : 1 * u ≤ s2 * u := Int.mul_le_mul_of_nonneg_right (by omega) (by rw [hu] at hb2; omega)
    simp only [hi, hu, hv, hc] at hb hb2 hd ⊢
    refine ⟨by omega, by omega, by omega, by omega, by omega, by omega, k, by omega, by omega, ⟨rfl, rfl, rfl⟩, ?_⟩
    rw [hd]
    rfl
end Go.Proofs.Ytcplbmlebogffaa

namespace Go.Proofs.Ytcplbmlebogffaa
open Go GoV
set_option maxHeartbeats 2000000

theorem getR_app {pre h : Heap} {r : Nat} : getR (pre ++ h) (pre.length + r) = getR h r := by
  induction pre with
  | nil => simp
  | cons a pre ih =>
    rw [List.cons_append, List.length_cons, show pre.length + 1 + r = (pre.length + r) + 1 by omega]
    exact ih

theorem rd_ap {P : List Int} {h pre post : Heap} (he : h = pre ++ (shRows pre.length (apH P) ++ post)) : Rd h (shA pre.length (apA P)) (IL P) := by
  subst he
  cases P with
  | nil => exact trivial
  | cons p r =>
    have e : getR (pre ++ (shRows pre.length (apH (p :: r)) ++ post)) (pre.length + 1) = .seq (.int .i64) (p :: r) false := by
      rw [getR_app]; rfl
    show Rd1 _ (.list (.int .i64)) (p :: r) (.slc (pre.length + 1) _ 0 _)
    simp only [Rd1, e]
    refine ⟨⟨trivial, by omega⟩, ?_⟩
    simp [subL]

theorem rd_row {t : Ty} {xs : List t.den} {ex : Bool} {n : Nat} {h pre post : Heap} (ht : t.flat = true) (hn : xs.length = n) (he : h = pre ++ (shRows pre.length [.seq t xs ex] ++ post)) : Rd h (shA pre.length (.slc 0 n 0 n)) (.dat (.list t) xs) := by
  subst he
  subst hn
  have e : getR (pre ++ (shRows pre.length [.seq t xs ex] ++ post)) (pre.length + 0) = .seq t xs ex := by
    rw [getR_app]; simp [shRows, shRow, ht, getR]
  show Rd1 _ (.list t) xs (.slc (pre.length + 0) _ 0 _)
  simp only [Rd1, e]
  refine ⟨⟨trivial, by omega⟩, ?_⟩
  simp [subL]

theorem ap_flat (P : List Int) : flatA (apA P) = true := by cases P <;> rfl

theorem refpart_vc (cards places : List Int) (i n m : Int) (hn : sizeL cards 1 = some n) (hl : cards.length ≤ 100000) (hpl : places.length ≤ 100000) (hp : ∀ k ∈ places, 0 ≤ k ∧ k < cards.length) (hc : ∀ c ∈ cards, 1 ≤ c) (hi : 0 ≤ i ∧ i ≤ 9223372036854775807)
    (hm : sizeL (pickL cards places) 1 = some m) (hw : withinL (pickL (digs cards i).1 places) (pickL cards places) = true) : VCalls Try.prog 30 [IL cards, IL places, I i] [] (fun v fr => v = I (idxR (pickL cards places) (pickL (digs cards i).1 places)).1 ∧ fr = []) := by
  refine vcalls_fn hmix h30 rfl ?_
  simp -implicitDefEqProofs only [c30, vnD_mk, vopsD_nil, vopsD_one, vopsD_grd, vgD_true, vgD_false, vgD_dec, vgD_und, det_ret, det_nd, det_fail, det_br, awp_skip, awp_ret, awp_exit, awp_seq, awp_block, awp_loop, awp_reg, regK_mk, awp_regD, regD_mk, awp_cond, condW_dec, condW_not, condW_true, condW_false, thn_n, thn_x, thn_r, brk_n, brk_r, brk_x, vnext_mk, vops_nil, vops_one, vops_grd, vgd_true, vgd_false, vgd_dec, vgd_not, vgd_und, sem_ret, sem_nd, sem_fail, sem_br, bind_ret, bind_nd, bind_fail, bind_br, ofOpt_some, ofOpt_none, finW_n, finW_r, outMarks_nil, vop, ev, evL, getT, setT, putT, binV, binI, binB, shiftI, kEq, unV, negI, convV, lenV, lenSV, bnd, getR, sliceOf, castD_self, rng, enumT, okCells, cellsV, cellsD, fillV, fillS, cv, cvC, cvS, cvL, cvU, Ty.size, Ty.isAgg, Ty.dflt, elems, appV, mkI, mmI, NatBeq, NatBlt, NatBle, Nat.reduceBEq, Nat.reduceLT, Nat.reduceLeDiff, Nat.reduceAdd, Nat.reduceSub, Nat.reduceMul, Nat.reduceEqDiff, decide_true, decide_false, List.length_cons, List.length_nil, List.nil_append, List.cons_append, List.append_nil, List.getElem?_cons_zero, List.getElem?_cons_succ, List.take_zero, List.set_cons_zero, List.set_cons_succ, true_implies, false_implies, forall_const, and_true, true_and, and_self, Bool.false_eq_true, reduceCtorEq, if_false, if_true, ↓reduceIte, decide_eq_true_eq, decide_eq_false_iff_not, Bool.not_true, Bool.not_false, not_true_eq_false, not_false_eq_true, Int.reduceEq, Int.reduceLT, Int.reduceLE, Int.reduceNe, Int.reduceAdd, Int.reduceSub, Int.reduceMul, Int.reduceToNat, subL_cons, subL_zero, List.replicate_succ, List.replicate_zero, Nat.zero_add, Nat.mul_one, Nat.one_mul, List.isEmpty_cons, List.isEmpty_nil, splice, rangeEnd, endF, shA, shAs, shB, shRowB, setTs, bodyW, roundW, endRoundW, outMarks_cons, noDfr, fillD]
  refine read_rule (at_vc cards places hpl hp) ⟨rfl, rfl, trivial⟩ (ap_flat _) ?_
  simp -implicitDefEqProofs only [vnD_mk, vopsD_nil, vopsD_one, vopsD_grd, vgD_true, vgD_false, vgD_dec, vgD_und, det_ret, det_nd, det_fail, det_br, awp_skip, awp_ret, awp_exit, awp_seq, awp_block, awp_loop, awp_reg, regK_mk, awp_regD, regD_mk, awp_cond, condW_dec, condW_not, condW_true, condW_false, thn_n, thn_x, thn_r, brk_n, brk_r, brk_x, vnext_mk, vops_nil, vops_one, vops_grd, vgd_true, vgd_false, vgd_dec, vgd_not, vgd_und, sem_ret, sem_nd, sem_fail, sem_br, bind_ret, bind_nd, bind_fail, bind_br, ofOpt_some, ofOpt_none, finW_n, finW_r, outMarks_nil, vop, ev, evL, getT, setT, putT, binV, binI, binB, shiftI, kEq, unV, negI, convV, lenV, lenSV, bnd, getR, sliceOf, castD_self, rng, enumT, okCells, cellsV, cellsD, fillV, fillS, cv, cvC, cvS, cvL, cvU, Ty.size, Ty.isAgg, Ty.dflt, elems, appV, mkI, mmI, NatBeq, NatBlt, NatBle, Nat.reduceBEq, Nat.reduceLT, Nat.reduceLeDiff, Nat.reduceAdd, Nat.reduceSub, Nat.reduceMul, Nat.reduceEqDiff, decide_true, decide_false, List.length_cons, List.length_nil, List.nil_append, List.cons_append, List.append_nil, List.getElem?_cons_zero, List.getElem?_cons_succ, List.take_zero, List.set_cons_zero, List.set_cons_succ, true_implies, false_implies, forall_const, and_true, true_and, and_self, Bool.false_eq_true, reduceCtorEq, if_false, if_true, ↓reduceIte, decide_eq_true_eq, decide_eq_false_iff_not, Bool.not_true, Bool.not_false, not_true_eq_false, not_false_eq_true, Int.reduceEq, Int.reduceLT, Int.reduceLE, Int.reduceNe, Int.reduceAdd, Int.reduceSub, Int.reduceMul, Int.reduceToNat, subL_cons, subL_zero, List.replicate_succ, List.replicate_zero, Nat.zero_add, Nat.mul_one, Nat.one_mul, List.isEmpty_cons, List.isEmpty_nil, splice, rangeEnd, endF, shA, shAs, shB, shRowB, setTs, bodyW, roundW, endRoundW, outMarks_cons, noDfr, fillD]
  refine read_rule (refvalues_vc cards i hl hc hi) ⟨rfl, rfl, trivial⟩ rfl ?_
  simp -implicitDefEqProofs only [vnD_mk, vopsD_nil, vopsD_one, vopsD_grd, vgD_true, vgD_false, vgD_dec, vgD_und, det_ret, det_nd, det_fail, det_br, awp_skip, awp_ret, awp_exit, awp_seq, awp_block, awp_loop, awp_reg, regK_mk, awp_regD, regD_mk, awp_cond, condW_dec, condW_not, condW_true, condW_false, thn_n, thn_x, thn_r, brk_n, brk_r, brk_x, vnext_mk, vops_nil, vops_one, vops_grd, vgd_true, vgd_false, vgd_dec, vgd_not, vgd_und, sem_ret, sem_nd, sem_fail, sem_br, bind_ret, bind_nd, bind_fail, bind_br, ofOpt_some, ofOpt_none, finW_n, finW_r, outMarks_nil, vop, ev, evL, getT, setT, putT, binV, binI, binB, shiftI, kEq, unV, negI, convV, lenV, lenSV, bnd, getR, sliceOf, castD_self, rng, enumT, okCells, cellsV, cellsD, fillV, fillS, cv, cvC, cvS, cvL, cvU, Ty.size, Ty.isAgg, Ty.dflt, elems, appV, mkI, mmI, NatBeq, NatBlt, NatBle, Nat.reduceBEq, Nat.reduceLT, Nat.reduceLeDiff, Nat.reduceAdd, Nat.reduceSub, Nat.reduceMul, Nat.reduceEqDiff, decide_true, decide_false, List.length_cons, List.length_nil, List.nil_append, List.cons_append, List.append_nil, List.getElem?_cons_zero, List.getElem?_cons_succ, List.take_zero, List.set_cons_zero, List.set_cons_succ, true_implies, false_implies, forall_const, and_true, true_and, and_self, Bool.false_eq_true, reduceCtorEq, if_false, if_true, ↓reduceIte, decide_eq_true_eq, decide_eq_false_iff_not, Bool.not_true, Bool.not_false, not_true_eq_false, not_false_eq_true, Int.reduceEq, Int.reduceLT, Int.reduceLE, Int.reduceNe, Int.reduceAdd, Int.reduceSub, Int.reduceMul, Int.reduceToNat, subL_cons, subL_zero, List.replicate_succ, List.replicate_zero, Nat.zero_add, Nat.mul_one, Nat.one_mul, List.isEmpty_cons, List.isEmpty_nil, splice, rangeEnd, endF, shA, shAs, shB, shRowB, setTs, bodyW, roundW, endRoundW, outMarks_cons, noDfr, fillD]
  have hp2 : ∀ k ∈ places, 0 ≤ k ∧ k < ((digs cards i).1.length : Int) := fun k hk => by rw [digs_length]; exact hp k hk
  refine read_rule (at_vc (digs cards i).1 places hpl hp2) ⟨rd_row (ex := true) rfl (digs_length cards i) (pre := shRows 0 (apH (pickL cards places))) (post := []) (by simp), rfl, trivial⟩ (ap_flat _) ?_
  simp -implicitDefEqProofs only [vnD_mk, vopsD_nil, vopsD_one, vopsD_grd, vgD_true, vgD_false, vgD_dec, vgD_und, det_ret, det_nd, det_fail, det_br, awp_skip, awp_ret, awp_exit, awp_seq, awp_block, awp_loop, awp_reg, regK_mk, awp_regD, regD_mk, awp_cond, condW_dec, condW_not, condW_true, condW_false, thn_n, thn_x, thn_r, brk_n, brk_r, brk_x, vnext_mk, vops_nil, vops_one, vops_grd, vgd_true, vgd_false, vgd_dec, vgd_not, vgd_und, sem_ret, sem_nd, sem_fail, sem_br, bind_ret, bind_nd, bind_fail, bind_br, ofOpt_some, ofOpt_none, finW_n, finW_r, outMarks_nil, vop, ev, evL, getT, setT, putT, binV, binI, binB, shiftI, kEq, unV, negI, convV, lenV, lenSV, bnd, getR, sliceOf, castD_self, rng, enumT, okCells, cellsV, cellsD, fillV, fillS, cv, cvC, cvS, cvL, cvU, Ty.size, Ty.isAgg, Ty.dflt, elems, appV, mkI, mmI, NatBeq, NatBlt, NatBle, Nat.reduceBEq, Nat.reduceLT, Nat.reduceLeDiff, Nat.reduceAdd, Nat.reduceSub, Nat.reduceMul, Nat.reduceEqDiff, decide_true, decide_false, List.length_cons, List.length_nil, List.nil_append, List.cons_append, List.append_nil, List.getElem?_cons_zero, List.getElem?_cons_succ, List.take_zero, List.set_cons_zero, List.set_cons_succ, true_implies, false_implies, forall_const, and_true, true_and, and_self, Bool.false_eq_true, reduceCtorEq, if_false, if_true, ↓reduceIte, decide_eq_true_eq, decide_eq_false_iff_not, Bool.not_true, Bool.not_false, not_true_eq_false, not_false_eq_true, Int.reduceEq, Int.reduceLT, Int.reduceLE, Int.reduceNe, Int.reduceAdd, Int.reduceSub, Int.reduceMul, Int.reduceToNat, subL_cons, subL_zero, List.replicate_succ, List.replicate_zero, Nat.zero_add, Nat.mul_one, Nat.one_mul, List.isEmpty_cons, List.isEmpty_nil, splice, rangeEnd, endF, shA, shAs, shB, shRowB, setTs, bodyW, roundW, endRoundW, outMarks_cons, noDfr, fillD]
  refine read_rule (refindex_vc (pickL cards places) (pickL (digs cards i).1 places) m hm (by simp [pickL]; omega) hw) ⟨rd_ap (pre := []) (post := shRows (shRows 0 (apH (pickL cards places))).length [.seq (.int .i64) (digs cards i).1 true] ++ shRows (shRows 0 (apH (pickL cards places)) ++ shRows (shRows 0 (apH (pickL cards places))).length [.seq (.int .i64) (digs cards i).1 true]).length (apH (pickL (digs cards i).1 places))) (by simp), rd_ap (pre := shRows 0 (apH (pickL cards places)) ++ shRows (shRows 0 (apH (pickL cards places))).length [.seq (.int .i64) (digs cards i).1 true]) (post := []) (by simp), trivial⟩ rfl ?_
  simp -implicitDefEqProofs only [vnD_mk, vopsD_nil, vopsD_one, vopsD_grd, vgD_true, vgD_false, vgD_dec, vgD_und, det_ret, det_nd, det_fail, det_br, awp_skip, awp_ret, awp_exit, awp_seq, awp_block, awp_loop, awp_reg, regK_mk, awp_regD, regD_mk, awp_cond, condW_dec, condW_not, condW_true, condW_false, thn_n, thn_x, thn_r, brk_n, brk_r, brk_x, vnext_mk, vops_nil, vops_one, vops_grd, vgd_true, vgd_false, vgd_dec, vgd_not, vgd_und, sem_ret, sem_nd, sem_fail, sem_br, bind_ret, bind_nd, bind_fail, bind_br, ofOpt_some, ofOpt_none, finW_n, finW_r, outMarks_nil, vop, ev, evL, getT, setT, putT, binV, binI, binB, shiftI, kEq, unV, negI, convV, lenV, lenSV, bnd, getR, sliceOf, castD_self, rng, enumT, okCells, cellsV, cellsD, fillV, fillS, cv, cvC, cvS, cvL, cvU, Ty.size, Ty.isAgg, Ty.dflt, elems, appV, mkI, mmI, NatBeq, NatBlt, NatBle, Nat.reduceBEq, Nat.reduceLT, Nat.reduceLeDiff, Nat.reduceAdd, Nat.reduceSub, Nat.reduceMul, Nat.reduceEqDiff, decide_true, decide_false, List.length_cons, List.length_nil, List.nil_append, List.cons_append, List.append_nil, List.getElem?_cons_zero, List.getElem?_cons_succ, List.take_zero, List.set_cons_zero, List.set_cons_succ, true_implies, false_implies, forall_const, and_true, true_and, and_self, Bool.false_eq_true, reduceCtorEq, if_false, if_true, ↓reduceIte, decide_eq_true_eq, decide_eq_false_iff_not, Bool.not_true, Bool.not_false, not_true_eq_false, not_false_eq_true, Int.reduceEq, Int.reduceLT, Int.reduceLE, Int.reduceNe, Int.reduceAdd, Int.reduceSub, Int.reduceMul, Int.reduceToNat, subL_cons, subL_zero, List.replicate_succ, List.replicate_zero, Nat.zero_add, Nat.mul_one, Nat.one_mul, List.isEmpty_cons, List.isEmpty_nil, splice, rangeEnd, endF, shA, shAs, shB, shRowB, setTs, bodyW, roundW, endRoundW, outMarks_cons, noDfr, fillD]
  exact finK_of 0 rfl rfl ⟨rfl, rfl⟩
end Go.Proofs.Ytcplbmlebogffaa

namespace Go.Proofs.Ytcplbmlebogffaa
open Go GoV
set_option maxHeartbeats 2000000

def placesL (n : Int) : Int → List Int → Bool
  | _, [] => true
  | last, x :: r => decide ((0 ≤ x ∧ x < n) ∧ last < x) && placesL n x r

theorem places_vc (l : List Int) (n : Int) (hl : l.length ≤ 100000) : VCalls Try.prog 27 [IL l, I n] [] (fun v fr => v = B (placesL n (-1) l) ∧ fr = []) := by
  refine vcalls_fn hmix h27 rfl ?_
  simp -implicitDefEqProofs only [c27, vnD_mk, vopsD_nil, vopsD_one, vopsD_grd, vgD_true, vgD_false, vgD_dec, vgD_und, det_ret, det_nd, det_fail, det_br, awp_skip, awp_ret, awp_exit, awp_seq, awp_block, awp_loop, awp_reg, regK_mk, awp_regD, regD_mk, awp_cond, condW_dec, condW_not, condW_true, condW_false, thn_n, thn_x, thn_r, brk_n, brk_r, brk_x, vnext_mk, vops_nil, vops_one, vops_grd, vgd_true, vgd_false, vgd_dec, vgd_not, vgd_und, sem_ret, sem_nd, sem_fail, sem_br, bind_ret, bind_nd, bind_fail, bind_br, ofOpt_some, ofOpt_none, finW_n, finW_r, outMarks_nil, vop, ev, evL, getT, setT, putT, binV, binI, binB, shiftI, kEq, unV, negI, convV, lenV, lenSV, bnd, getR, sliceOf, castD_self, rng, enumT, okCells, cellsV, cellsD, fillV, fillS, cv, cvC, cvS, cvL, cvU, Ty.size, Ty.isAgg, Ty.dflt, elems, appV, mkI, mmI, NatBeq, NatBlt, NatBle, Nat.reduceBEq, Nat.reduceLT, Nat.reduceLeDiff, Nat.reduceAdd, Nat.reduceSub, Nat.reduceMul, Nat.reduceEqDiff, decide_true, decide_false, List.length_cons, List.length_nil, List.nil_append, List.cons_append, List.append_nil, List.getElem?_cons_zero, List.getElem?_cons_succ, List.take_zero, List.set_cons_zero, List.set_cons_succ, true_implies, false_implies, forall_const, and_true, true_and, and_self, Bool.false_eq_true, reduceCtorEq, if_false, if_true, ↓reduceIte, decide_eq_true_eq, decide_eq_false_iff_not, Bool.not_true, Bool.not_false, not_true_eq_false, not_false_eq_true, Int.reduceEq, Int.reduceLT, Int.reduceLE, Int.reduceNe, Int.reduceAdd, Int.reduceSub, Int.reduceMul, Int.reduceToNat, subL_cons, subL_zero, List.replicate_succ, List.replicate_zero, Nat.zero_add, Nat.mul_one, Nat.one_mul, List.isEmpty_cons, List.isEmpty_nil, splice, rangeEnd, endF, shA, shAs, shB, shRowB, setTs, bodyW, roundW, endRoundW, outMarks_cons, noDfr, fillD]
  refine loop_rule (α := Nat × Int) (fun a => ⟨[(5, I a.1), (1, I n), (0, IL l)], [], []⟩) (fun a => a.1 ≤ l.length ∧ placesL n (-1) l = placesL n a.2 (l.drop a.1) ∧ (a.1 = 0 ∧ a.2 = -1 ∨ 0 < a.1 ∧ a.2 = l.getD (a.1 - 1) 0)) (fun a => l.length - a.1)
    [5, 1, 0] 0 (0, -1) rfl ⟨rfl, rfl, rfl⟩ rfl ⟨by simp only; omega, rfl, .inl ⟨rfl, rfl⟩⟩ ?_
  rintro ⟨k, last⟩ ⟨hk, he, hp⟩
  simp only at hk he hp
  simp -implicitDefEqProofs only [c27L0, vnD_mk, vopsD_nil, vopsD_one, vopsD_grd, vgD_true, vgD_false, vgD_dec, vgD_und, det_ret, det_nd, det_fail, det_br, awp_skip, awp_ret, awp_exit, awp_seq, awp_block, awp_loop, awp_reg, regK_mk, awp_regD, regD_mk, awp_cond, condW_dec, condW_not, condW_true, condW_false, thn_n, thn_x, thn_r, brk_n, brk_r, brk_x, vnext_mk, vops_nil, vops_one, vops_grd, vgd_true, vgd_false, vgd_dec, vgd_not, vgd_und, sem_ret, sem_nd, sem_fail, sem_br, bind_ret, bind_nd, bind_fail, bind_br, ofOpt_some, ofOpt_none, finW_n, finW_r, outMarks_nil, vop, ev, evL, getT, setT, putT, binV, binI, binB, shiftI, kEq, unV, negI, convV, lenV, lenSV, bnd, getR, sliceOf, castD_self, rng, enumT, okCells, cellsV, cellsD, fillV, fillS, cv, cvC, cvS, cvL, cvU, Ty.size, Ty.isAgg, Ty.dflt, elems, appV, mkI, mmI, NatBeq, NatBlt, NatBle, Nat.reduceBEq, Nat.reduceLT, Nat.reduceLeDiff, Nat.reduceAdd, Nat.reduceSub, Nat.reduceMul, Nat.reduceEqDiff, decide_true, decide_false, List.length_cons, List.length_nil, List.nil_append, List.cons_append, List.append_nil, List.getElem?_cons_zero, List.getElem?_cons_succ, List.take_zero, List.set_cons_zero, List.set_cons_succ, true_implies, false_implies, forall_const, and_true, true_and, and_self, Bool.false_eq_true, reduceCtorEq, if_false, if_true, ↓reduceIte, decide_eq_true_eq, decide_eq_false_iff_not, Bool.not_true, Bool.not_false, not_true_eq_false, not_false_eq_true, Int.reduceEq, Int.reduceLT, Int.reduceLE, Int.reduceNe, Int.reduceAdd, Int.reduceSub, Int.reduceMul, Int.reduceToNat, subL_cons, subL_zero, List.replicate_succ, List.replicate_zero, Nat.zero_add, Nat.mul_one, Nat.one_mul, List.isEmpty_cons, List.isEmpty_nil, splice, rangeEnd, endF, shA, shAs, shB, shRowB, setTs, bodyW, roundW, endRoundW, outMarks_cons, noDfr, fillD]
  simp only [inR, Int.toNat_natCast]
  have ek : ((k : Int) - 1).toNat = k - 1 := by omega
  simp only [ek]
  refine ⟨fun h => ?_, fun h => ?_⟩
  · have h1 : k < l.length := by omega
    rw [drop_at (d := 0) h1] at he
    obtain ⟨x, hx⟩ : ∃ x, l.getD k 0 = x := ⟨_, rfl⟩
    obtain ⟨y, hy⟩ : ∃ y, l.getD (k - 1) 0 = y := ⟨_, rfl⟩
    rw [hx] at he
    rw [hy] at hp
    simp only [hx, hy]
    simp only [placesL] at he
    have no : ¬ ((0 ≤ x ∧ x < n) ∧ last < x) → placesL n (-1) l = false := fun hd => by rw [he, decide_eq_false hd]; rfl
    have yes : ((0 ≤ x ∧ x < n) ∧ last < x) → placesL n (-1) l = placesL n x (l.drop (k + 1)) := fun hd => by rw [he, decide_eq_true hd]; rfl
    refine ⟨by omega, fun h2 => ?_, fun h2 => ⟨by omega, fun h3 => ?_, fun h3 => ⟨fun h4 => ⟨by omega, by omega, by omega, fun h5 => ?_, fun h5 => ?_⟩, fun h4 => ?_⟩⟩⟩
    · exact finK_of 0 rfl rfl ⟨by rw [no (by omega)]; rfl, rfl⟩
    · exact finK_of 0 rfl rfl ⟨by rw [no (by omega)]; rfl, rfl⟩
    · exact finK_of 0 rfl rfl ⟨by rw [no (by omega)]; rfl, rfl⟩
    · refine ⟨by omega, (k + 1, x), ⟨by simp only; omega, yes (by omega), .inr ⟨by simp only; omega, by simp [← hx]⟩⟩, by simp only; omega, ⟨rfl, rfl, rfl⟩, rfl⟩
    · refine ⟨by omega, (k + 1, x), ⟨by simp only; omega, yes (by omega), .inr ⟨by simp only; omega, by simp [← hx]⟩⟩, by simp only; omega, ⟨rfl, rfl, rfl⟩, rfl⟩
  · have h1 : l.length ≤ k := by omega
    rw [List.drop_eq_nil_of_le h1] at he
    exact finK_of 0 rfl rfl ⟨by rw [he]; rfl, rfl⟩
end Go.Proofs.Ytcplbmlebogffaa

namespace Go.Proofs.Ytcplbmlebogffaa
open Go GoV
set_option maxHeartbeats 2000000

theorem cut_vc (l : List Int) : VCalls Try.prog 11 [IL l] [] (fun v fr => v = IL (l.take 14) ∧ fr = []) := by
  refine vcalls_fn hmix h11 rfl ?_
  simp -implicitDefEqProofs only [c11, bndI, vnD_mk, vopsD_nil, vopsD_one, vopsD_grd, vgD_true, vgD_false, vgD_dec, vgD_und, det_ret, det_nd, det_fail, det_br, awp_skip, awp_ret, awp_exit, awp_seq, awp_block, awp_loop, awp_reg, regK_mk, awp_regD, regD_mk, awp_cond, condW_dec, condW_not, condW_true, condW_false, thn_n, thn_x, thn_r, brk_n, brk_r, brk_x, vnext_mk, vops_nil, vops_one, vops_grd, vgd_true, vgd_false, vgd_dec, vgd_not, vgd_und, sem_ret, sem_nd, sem_fail, sem_br, bind_ret, bind_nd, bind_fail, bind_br, ofOpt_some, ofOpt_none, finW_n, finW_r, outMarks_nil, vop, ev, evL, getT, setT, putT, binV, binI, binB, shiftI, kEq, unV, negI, convV, lenV, lenSV, bnd, getR, sliceOf, castD_self, rng, enumT, okCells, cellsV, cellsD, fillV, fillS, cv, cvC, cvS, cvL, cvU, Ty.size, Ty.isAgg, Ty.dflt, elems, appV, mkI, mmI, NatBeq, NatBlt, NatBle, Nat.reduceBEq, Nat.reduceLT, Nat.reduceLeDiff, Nat.reduceAdd, Nat.reduceSub, Nat.reduceMul, Nat.reduceEqDiff, decide_true, decide_false, List.length_cons, List.length_nil, List.nil_append, List.cons_append, List.append_nil, List.getElem?_cons_zero, List.getElem?_cons_succ, List.take_zero, List.set_cons_zero, List.set_cons_succ, true_implies, false_implies, forall_const, and_true, true_and, and_self, Bool.false_eq_true, reduceCtorEq, if_false, if_true, ↓reduceIte, decide_eq_true_eq, decide_eq_false_iff_not, Bool.not_true, Bool.not_false, not_true_eq_false, not_false_eq_true, Int.reduceEq, Int.reduceLT, Int.reduceLE, Int.reduceNe, Int.reduceAdd, Int.reduceSub, Int.reduceMul, Int.reduceToNat, subL_cons, subL_zero, List.replicate_succ, List.replicate_zero, Nat.zero_add, Nat.mul_one, Nat.one_mul, List.isEmpty_cons, List.isEmpty_nil, splice, rangeEnd, endF, shA, shAs, shB, shRowB, setTs, bodyW, roundW, endRoundW, outMarks_cons, noDfr, fillD]
  refine ⟨by omega, by omega, finK_of 0 rfl rfl ⟨?_, rfl⟩⟩
  show IL _ = IL _
  congr 1
  show ((l.drop 0).take _) = _
  rw [List.drop_zero, Nat.sub_zero]
  rcases Nat.le_total l.length 14 with h | h
  · have e : (min (l.length : Int) 14).toNat = l.length := by omega
    rw [e, List.take_length, List.take_of_length_le h]
  · have e : (min (l.length : Int) 14).toNat = 14 := by omega
    rw [e]

/-- a call with closed arguments and a closed result: what it made is forgotten -/
theorem frame_rule {α : Type} {P : Program} {f : Nat} {args : List AV} {h : Heap} {n : AV × Heap → Tr α} {Q : α → Prop} {v0 : AV} {fr0 : Heap} (H : VCalls P f args [] (fun v fr => v = v0 ∧ fr = fr0)) (hargs : refsLtL 0 args = true) (hv : refsLt 0 v0 = true)
    (hk : (n (v0, h)).sem (VC P) Q) : ((Tr.call (.fn f) args h fun v h' => .ret (v, h')).bind n).sem (VC P) Q :=
  call_rule (vcalls_frame hargs H (fun v h' hq => by rw [hq.1]; exact hv) h) (fun v h' ⟨h1, h2, h3, _⟩ => by subst h1; subst h3; exact hk)
end Go.Proofs.Ytcplbmlebogffaa

namespace Go.Proofs.Ytcplbmlebogffaa
open Go GoV
set_option maxHeartbeats 2000000

abbrev TD : Ty := .pair (.list (.int .u8)) (.pair (.int .u16) (.pair (.list (.int .u8)) .unit))
abbrev DA (c : List Int) (w : Int) (o : List Int) : AV := .dat TD (c, w, o, ())
def boxD (c : List Int) (w : Int) (o : List Int) : Row := .box [.dat (.list (.int .u8)) c, .dat (.int .u16) w, .dat (.list (.int .u8)) o]

def cardsL (c : List Int) : List Int := (c.take 5).map fun x => 1 + x.tmod 4

def apAo (b : Nat) : List Int → AV
  | [] => .nils
  | p :: r => .slc (b + 1) (p :: r).length 0 (p :: r).length

theorem cards_vc (c : List Int) (w : Int) (o : List Int) (hc : ∀ x ∈ c, 0 ≤ x ∧ x ≤ 255) : VCalls Try.prog 12 [DA c w o] [] (fun v fr => v = apAo 1 (cardsL c) ∧ fr = boxD c w o :: apH (cardsL c)) := by
  refine vcalls_fn hmix h12 rfl ?_
  simp -implicitDefEqProofs only [c12, vnD_mk, vopsD_nil, vopsD_one, vopsD_grd, vgD_true, vgD_false, vgD_dec, vgD_und, det_ret, det_nd, det_fail, det_br, awp_skip, awp_ret, awp_exit, awp_seq, awp_block, awp_loop, awp_reg, regK_mk, awp_regD, regD_mk, awp_cond, condW_dec, condW_not, condW_true, condW_false, thn_n, thn_x, thn_r, brk_n, brk_r, brk_x, vnext_mk, vops_nil, vops_one, vops_grd, vgd_true, vgd_false, vgd_dec, vgd_not, vgd_und, sem_ret, sem_nd, sem_fail, sem_br, bind_ret, bind_nd, bind_fail, bind_br, ofOpt_some, ofOpt_none, finW_n, finW_r, outMarks_nil, vop, ev, evL, getT, setT, putT, binV, binI, binB, shiftI, kEq, unV, negI, convV, lenV, lenSV, bnd, getR, sliceOf, castD_self, rng, enumT, okCells, cellsV, cellsD, fillV, fillS, cv, cvC, cvS, cvL, cvU, Ty.size, Ty.isAgg, Ty.dflt, elems, appV, mkI, mmI, NatBeq, NatBlt, NatBle, Nat.reduceBEq, Nat.reduceLT, Nat.reduceLeDiff, Nat.reduceAdd, Nat.reduceSub, Nat.reduceMul, Nat.reduceEqDiff, decide_true, decide_false, List.length_cons, List.length_nil, List.nil_append, List.cons_append, List.append_nil, List.getElem?_cons_zero, List.getElem?_cons_succ, List.take_zero, List.set_cons_zero, List.set_cons_succ, true_implies, false_implies, forall_const, and_true, true_and, and_self, Bool.false_eq_true, reduceCtorEq, if_false, if_true, ↓reduceIte, decide_eq_true_eq, decide_eq_false_iff_not, Bool.not_true, Bool.not_false, not_true_eq_false, not_false_eq_true, Int.reduceEq, Int.reduceLT, Int.reduceLE, Int.reduceNe, Int.reduceAdd, Int.reduceSub, Int.reduceMul, Int.reduceToNat, subL_cons, subL_zero, List.replicate_succ, List.replicate_zero, Nat.zero_add, Nat.mul_one, Nat.one_mul, List.isEmpty_cons, List.isEmpty_nil, splice, rangeEnd, endF, shA, shAs, shB, shRowB, setTs, bodyW, roundW, endRoundW, outMarks_cons, noDfr, fillD]
  refine loop_rule (α := Nat) (fun k => ⟨[(4, I k), (3, apAo 1 ((cardsL c).take k)), (1, .ptr 0 0)], boxD c w o :: apH ((cardsL c).take k), []⟩) (fun k => k ≤ (cardsL c).length) (fun k => (cardsL c).length - k)
    [4, 3, 1] 3 0 rfl ⟨rfl, rfl, rfl⟩ rfl (by omega) ?_
  intro k hk
  have hlen : (cardsL c).length = min 5 c.length := by simp [cardsL]
  have hxs : ∀ (h : k < c.length), k < 5 → (0 ≤ c.getD k 0 ∧ c.getD k 0 ≤ 255) ∧ (cardsL c).getD k 0 = 1 + (c.getD k 0).tmod 4 ∧ 0 ≤ (c.getD k 0).tmod 4 ∧ (c.getD k 0).tmod 4 < 4 := by
    intro h h5
    have e : c.getD k 0 = c[k] := by simp [h]
    rw [e]
    have hb := hc _ (List.getElem_mem h)
    refine ⟨hb, ?_, ?_, ?_⟩
    · simp [cardsL, h, h5]
    · rw [Int.tmod_eq_emod_of_nonneg hb.1]; omega
    · rw [Int.tmod_eq_emod_of_nonneg hb.1]; omega
  cases hq : (cardsL c).take k with
  | nil =>
    have e1 : apAo 1 [] = .nils := rfl
    have e2 : apH [] = [] := rfl
    simp only [e1, e2, boxD]
    simp -implicitDefEqProofs only [c12L0, vnD_mk, vopsD_nil, vopsD_one, vopsD_grd, vgD_true, vgD_false, vgD_dec, vgD_und, det_ret, det_nd, det_fail, det_br, awp_skip, awp_ret, awp_exit, awp_seq, awp_block, awp_loop, awp_reg, regK_mk, awp_regD, regD_mk, awp_cond, condW_dec, condW_not, condW_true, condW_false, thn_n, thn_x, thn_r, brk_n, brk_r, brk_x, vnext_mk, vops_nil, vops_one, vops_grd, vgd_true, vgd_false, vgd_dec, vgd_not, vgd_und, sem_ret, sem_nd, sem_fail, sem_br, bind_ret, bind_nd, bind_fail, bind_br, ofOpt_some, ofOpt_none, finW_n, finW_r, outMarks_nil, vop, ev, evL, getT, setT, putT, binV, binI, binB, shiftI, kEq, unV, negI, convV, lenV, lenSV, bnd, getR, sliceOf, castD_self, rng, enumT, okCells, cellsV, cellsD, fillV, fillS, cv, cvC, cvS, cvL, cvU, Ty.size, Ty.isAgg, Ty.dflt, elems, appV, mkI, mmI, NatBeq, NatBlt, NatBle, Nat.reduceBEq, Nat.reduceLT, Nat.reduceLeDiff, Nat.reduceAdd, Nat.reduceSub, Nat.reduceMul, Nat.reduceEqDiff, decide_true, decide_false, List.length_cons, List.length_nil, List.nil_append, List.cons_append, List.append_nil, List.getElem?_cons_zero, List.getElem?_cons_succ, List.take_zero, List.set_cons_zero, List.set_cons_succ, true_implies, false_implies, forall_const, and_true, true_and, and_self, Bool.false_eq_true, reduceCtorEq, if_false, if_true, ↓reduceIte, decide_eq_true_eq, decide_eq_false_iff_not, Bool.not_true, Bool.not_false, not_true_eq_false, not_false_eq_true, Int.reduceEq, Int.reduceLT, Int.reduceLE, Int.reduceNe, Int.reduceAdd, Int.reduceSub, Int.reduceMul, Int.reduceToNat, subL_cons, subL_zero, List.replicate_succ, List.replicate_zero, Nat.zero_add, Nat.mul_one, Nat.one_mul, List.isEmpty_cons, List.isEmpty_nil, splice, rangeEnd, endF, shA, shAs, shB, shRowB, setTs, bodyW, roundW, endRoundW, outMarks_cons, noDfr, fillD]
    simp only [Int.toNat_natCast, inR, two47]
    have fin : ∀ (h : ¬ (k < c.length ∧ k < 5)), cardsL c = [] := by
      intro h
      have : (cardsL c).take k = cardsL c := List.take_of_length_le (by omega)
      rw [← this, hq]
    refine ⟨fun h => ⟨fun h5 => ?_, fun h5 => ?_⟩, fun h => ?_⟩
    · obtain ⟨hx, hy, hz⟩ := hxs (by omega) (by omega)
      have ht := take_step (l := cardsL c) (k := k) (by omega)
      rw [hq, hy] at ht
      refine ⟨by omega, by omega, by omega, by omega, by omega, k + 1, by omega, by omega, ⟨rfl, rfl, rfl⟩, ?_⟩
      simp only [ht]
      rfl
    · refine finK_of 1 rfl rfl ?_
      rw [fin (by omega)]
      exact ⟨rfl, rfl⟩
    · refine finK_of 1 rfl rfl ?_
      rw [fin (by omega)]
      exact ⟨rfl, rfl⟩
  | cons p r =>
    have e1 : apAo 1 (p :: r) = .slc 2 (p :: r).length 0 (p :: r).length := rfl
    have e2 : apH (p :: r) = [.seq (.int .i64) [p] true, .seq (.int .i64) (p :: r) false] := rfl
    have hkl : (p :: r).length ≤ 5 := by rw [← hq, List.length_take]; omega
    simp only [e1, e2, boxD]
    simp -implicitDefEqProofs only [c12L0, vnD_mk, vopsD_nil, vopsD_one, vopsD_grd, vgD_true, vgD_false, vgD_dec, vgD_und, det_ret, det_nd, det_fail, det_br, awp_skip, awp_ret, awp_exit, awp_seq, awp_block, awp_loop, awp_reg, regK_mk, awp_regD, regD_mk, awp_cond, condW_dec, condW_not, condW_true, condW_false, thn_n, thn_x, thn_r, brk_n, brk_r, brk_x, vnext_mk, vops_nil, vops_one, vops_grd, vgd_true, vgd_false, vgd_dec, vgd_not, vgd_und, sem_ret, sem_nd, sem_fail, sem_br, bind_ret, bind_nd, bind_fail, bind_br, ofOpt_some, ofOpt_none, finW_n, finW_r, outMarks_nil, vop, ev, evL, getT, setT, putT, binV, binI, binB, shiftI, kEq, unV, negI, convV, lenV, lenSV, bnd, getR, sliceOf, castD_self, rng, enumT, okCells, cellsV, cellsD, fillV, fillS, cv, cvC, cvS, cvL, cvU, Ty.size, Ty.isAgg, Ty.dflt, elems, appV, mkI, mmI, NatBeq, NatBlt, NatBle, Nat.reduceBEq, Nat.reduceLT, Nat.reduceLeDiff, Nat.reduceAdd, Nat.reduceSub, Nat.reduceMul, Nat.reduceEqDiff, decide_true, decide_false, List.length_cons, List.length_nil, List.nil_append, List.cons_append, List.append_nil, List.getElem?_cons_zero, List.getElem?_cons_succ, List.take_zero, List.set_cons_zero, List.set_cons_succ, true_implies, false_implies, forall_const, and_true, true_and, and_self, Bool.false_eq_true, reduceCtorEq, if_false, if_true, ↓reduceIte, decide_eq_true_eq, decide_eq_false_iff_not, Bool.not_true, Bool.not_false, not_true_eq_false, not_false_eq_true, Int.reduceEq, Int.reduceLT, Int.reduceLE, Int.reduceNe, Int.reduceAdd, Int.reduceSub, Int.reduceMul, Int.reduceToNat, subL_cons, subL_zero, List.replicate_succ, List.replicate_zero, Nat.zero_add, Nat.mul_one, Nat.one_mul, List.isEmpty_cons, List.isEmpty_nil, splice, rangeEnd, endF, shA, shAs, shB, shRowB, setTs, bodyW, roundW, endRoundW, outMarks_cons, noDfr, fillD]
    simp only [Int.toNat_natCast, inR, two47]
    simp only [List.length_cons] at hkl
    have fin : ∀ (h : ¬ (k < c.length ∧ k < 5)), cardsL c = p :: r := by
      intro h
      have : (cardsL c).take k = cardsL c := List.take_of_length_le (by omega)
      rw [← this, hq]
    refine ⟨fun h => ⟨fun h5 => ?_, fun h5 => ?_⟩, fun h => ?_⟩
    · obtain ⟨hx, hy, hz⟩ := hxs (by omega) (by omega)
      have ht := take_step (l := cardsL c) (k := k) (by omega)
      rw [hq, hy] at ht
      refine ⟨by omega, by omega, by omega, Nat.le_refl _, by omega, by omega, k + 1, by omega, by omega, ⟨rfl, rfl, rfl⟩, ?_⟩
      simp only [ht]
      rfl
    · refine finK_of 3 rfl rfl ?_
      rw [fin (by omega)]
      exact ⟨rfl, rfl⟩
    · refine finK_of 3 rfl rfl ?_
      rw [fin (by omega)]
      exact ⟨rfl, rfl⟩
end Go.Proofs.Ytcplbmlebogffaa

namespace Go.Proofs.Ytcplbmlebogffaa
open Go GoV
set_option maxHeartbeats 2000000

def madeA (cards : List Int) (no : Int) : AV := if no = 0 then .slc 0 cards.length 0 cards.length else .nils
def madeH (cards : List Int) (no i : Int) : Heap := if no = 0 then [.seq (.int .i64) (digs cards i).1 true] else []

theorem made_vc (cards : List Int) (no i : Int) (hn : no = 0 → (cards.length ≤ 100000 ∧ ∀ c ∈ cards, 1 ≤ c) ∧ 0 ≤ i ∧ i ≤ 9223372036854775807) : VCalls Try.prog 22 [IL cards, I no, I i] [] (fun v fr => v = madeA cards no ∧ fr = madeH cards no i) := by
  refine vcalls_fn hmix h22 rfl ?_
  simp -implicitDefEqProofs only [c22, vnD_mk, vopsD_nil, vopsD_one, vopsD_grd, vgD_true, vgD_false, vgD_dec, vgD_und, det_ret, det_nd, det_fail, det_br, awp_skip, awp_ret, awp_exit, awp_seq, awp_block, awp_loop, awp_reg, regK_mk, awp_regD, regD_mk, awp_cond, condW_dec, condW_not, condW_true, condW_false, thn_n, thn_x, thn_r, brk_n, brk_r, brk_x, vnext_mk, vops_nil, vops_one, vops_grd, vgd_true, vgd_false, vgd_dec, vgd_not, vgd_und, sem_ret, sem_nd, sem_fail, sem_br, bind_ret, bind_nd, bind_fail, bind_br, ofOpt_some, ofOpt_none, finW_n, finW_r, outMarks_nil, vop, ev, evL, getT, setT, putT, binV, binI, binB, shiftI, kEq, unV, negI, convV, lenV, lenSV, bnd, getR, sliceOf, castD_self, rng, enumT, okCells, cellsV, cellsD, fillV, fillS, cv, cvC, cvS, cvL, cvU, Ty.size, Ty.isAgg, Ty.dflt, elems, appV, mkI, mmI, NatBeq, NatBlt, NatBle, Nat.reduceBEq, Nat.reduceLT, Nat.reduceLeDiff, Nat.reduceAdd, Nat.reduceSub, Nat.reduceMul, Nat.reduceEqDiff, decide_true, decide_false, List.length_cons, List.length_nil, List.nil_append, List.cons_append, List.append_nil, List.getElem?_cons_zero, List.getElem?_cons_succ, List.take_zero, List.set_cons_zero, List.set_cons_succ, true_implies, false_implies, forall_const, and_true, true_and, and_self, Bool.false_eq_true, reduceCtorEq, if_false, if_true, ↓reduceIte, decide_eq_true_eq, decide_eq_false_iff_not, Bool.not_true, Bool.not_false, not_true_eq_false, not_false_eq_true, Int.reduceEq, Int.reduceLT, Int.reduceLE, Int.reduceNe, Int.reduceAdd, Int.reduceSub, Int.reduceMul, Int.reduceToNat, subL_cons, subL_zero, List.replicate_succ, List.replicate_zero, Nat.zero_add, Nat.mul_one, Nat.one_mul, List.isEmpty_cons, List.isEmpty_nil, splice, rangeEnd, endF, shA, shAs, shB, shRowB, setTs, bodyW, roundW, endRoundW, outMarks_cons, noDfr, fillD]
  refine ⟨fun h => ?_, fun h => ?_⟩
  · refine finK_of 0 rfl rfl ?_
    simp only [madeA, madeH, if_neg h]
    exact ⟨rfl, rfl⟩
  · obtain ⟨⟨h1, h2⟩, h3⟩ := hn h
    refine read_rule (refvalues_vc cards i h1 h2 h3) ⟨rfl, rfl, trivial⟩ rfl ?_
    simp -implicitDefEqProofs only [shA, shRows, shRow, Ty.flat, vnD_mk, vopsD_nil, vopsD_one, vopsD_grd, vgD_true, vgD_false, vgD_dec, vgD_und, det_ret, det_nd, det_fail, det_br, awp_skip, awp_ret, awp_exit, awp_seq, awp_block, awp_loop, awp_reg, regK_mk, awp_regD, regD_mk, awp_cond, condW_dec, condW_not, condW_true, condW_false, thn_n, thn_x, thn_r, brk_n, brk_r, brk_x, vnext_mk, vops_nil, vops_one, vops_grd, vgd_true, vgd_false, vgd_dec, vgd_not, vgd_und, sem_ret, sem_nd, sem_fail, sem_br, bind_ret, bind_nd, bind_fail, bind_br, ofOpt_some, ofOpt_none, finW_n, finW_r, outMarks_nil, vop, ev, evL, getT, setT, putT, binV, binI, binB, shiftI, kEq, unV, negI, convV, lenV, lenSV, bnd, getR, sliceOf, castD_self, rng, enumT, okCells, cellsV, cellsD, fillV, fillS, cv, cvC, cvS, cvL, cvU, Ty.size, Ty.isAgg, Ty.dflt, elems, appV, mkI, mmI, NatBeq, NatBlt, NatBle, Nat.reduceBEq, Nat.reduceLT, Nat.reduceLeDiff, Nat.reduceAdd, Nat.reduceSub, Nat.reduceMul, Nat.reduceEqDiff, decide_true, decide_false, List.length_cons, List.length_nil, List.nil_append, List.cons_append, List.append_nil, List.getElem?_cons_zero, List.getElem?_cons_succ, List.take_zero, List.set_cons_zero, List.set_cons_succ, true_implies, false_implies, forall_const, and_true, true_and, and_self, Bool.false_eq_true, reduceCtorEq, if_false, if_true, ↓reduceIte, decide_eq_true_eq, decide_eq_false_iff_not, Bool.not_true, Bool.not_false, not_true_eq_false, not_false_eq_true, Int.reduceEq, Int.reduceLT, Int.reduceLE, Int.reduceNe, Int.reduceAdd, Int.reduceSub, Int.reduceMul, Int.reduceToNat, subL_cons, subL_zero, List.replicate_succ, List.replicate_zero, Nat.zero_add, Nat.mul_one, Nat.one_mul, List.isEmpty_cons, List.isEmpty_nil, splice, rangeEnd, endF, shA, shAs, shB, shRowB, setTs, bodyW, roundW, endRoundW, outMarks_cons, noDfr, fillD]
    refine finK_of 1 rfl rfl ?_
    simp only [madeA, madeH, if_pos h]
    exact ⟨rfl, rfl⟩
end Go.Proofs.Ytcplbmlebogffaa

namespace Go.Proofs.Ytcplbmlebogffaa
open Go GoV
set_option maxHeartbeats 2000000

theorem is_vc (n : Int) : VCalls Try.prog 37 [I n] [] (fun v fr => v = .fn 49 [] [.ptr 0 0] ∧ fr = [.box [I n]]) := by
  refine vcalls_fn hmix h37 rfl ?_
  simp -implicitDefEqProofs only [c37, vnD_mk, vopsD_nil, vopsD_one, vopsD_grd, vgD_true, vgD_false, vgD_dec, vgD_und, det_ret, det_nd, det_fail, det_br, awp_skip, awp_ret, awp_exit, awp_seq, awp_block, awp_loop, awp_reg, regK_mk, awp_regD, regD_mk, awp_cond, condW_dec, condW_not, condW_true, condW_false, thn_n, thn_x, thn_r, brk_n, brk_r, brk_x, vnext_mk, vops_nil, vops_one, vops_grd, vgd_true, vgd_false, vgd_dec, vgd_not, vgd_und, sem_ret, sem_nd, sem_fail, sem_br, bind_ret, bind_nd, bind_fail, bind_br, ofOpt_some, ofOpt_none, finW_n, finW_r, outMarks_nil, vop, ev, evL, getT, setT, putT, binV, binI, binB, shiftI, kEq, unV, negI, convV, lenV, lenSV, bnd, getR, sliceOf, castD_self, rng, enumT, okCells, cellsV, cellsD, fillV, fillS, cv, cvC, cvS, cvL, cvU, Ty.size, Ty.isAgg, Ty.dflt, elems, appV, mkI, mmI, NatBeq, NatBlt, NatBle, Nat.reduceBEq, Nat.reduceLT, Nat.reduceLeDiff, Nat.reduceAdd, Nat.reduceSub, Nat.reduceMul, Nat.reduceEqDiff, decide_true, decide_false, List.length_cons, List.length_nil, List.nil_append, List.cons_append, List.append_nil, List.getElem?_cons_zero, List.getElem?_cons_succ, List.take_zero, List.set_cons_zero, List.set_cons_succ, true_implies, false_implies, forall_const, and_true, true_and, and_self, Bool.false_eq_true, reduceCtorEq, if_false, if_true, ↓reduceIte, decide_eq_true_eq, decide_eq_false_iff_not, Bool.not_true, Bool.not_false, not_true_eq_false, not_false_eq_true, Int.reduceEq, Int.reduceLT, Int.reduceLE, Int.reduceNe, Int.reduceAdd, Int.reduceSub, Int.reduceMul, Int.reduceToNat, subL_cons, subL_zero, List.replicate_succ, List.replicate_zero, Nat.zero_add, Nat.mul_one, Nat.one_mul, List.isEmpty_cons, List.isEmpty_nil, splice, rangeEnd, endF, shA, shAs, shB, shRowB, setTs, bodyW, roundW, endRoundW, outMarks_cons, noDfr, fillD]
  exact finK_of 1 rfl rfl ⟨rfl, rfl⟩

theorem lawsize_vc (xs : List Int) (n : Int) (hn : sizeL xs 1 = some n) (hl : xs.length ≤ 100000) : VCalls Try.prog 36 [IL xs] [] (fun v fr => v = I n ∧ fr = []) := by
  refine vcalls_fn hmix h36 rfl ?_
  simp -implicitDefEqProofs only [c36, vnD_mk, vopsD_nil, vopsD_one, vopsD_grd, vgD_true, vgD_false, vgD_dec, vgD_und, det_ret, det_nd, det_fail, det_br, awp_skip, awp_ret, awp_exit, awp_seq, awp_block, awp_loop, awp_reg, regK_mk, awp_regD, regD_mk, awp_cond, condW_dec, condW_not, condW_true, condW_false, thn_n, thn_x, thn_r, brk_n, brk_r, brk_x, vnext_mk, vops_nil, vops_one, vops_grd, vgd_true, vgd_false, vgd_dec, vgd_not, vgd_und, sem_ret, sem_nd, sem_fail, sem_br, bind_ret, bind_nd, bind_fail, bind_br, ofOpt_some, ofOpt_none, finW_n, finW_r, outMarks_nil, vop, ev, evL, getT, setT, putT, binV, binI, binB, shiftI, kEq, unV, negI, convV, lenV, lenSV, bnd, getR, sliceOf, castD_self, rng, enumT, okCells, cellsV, cellsD, fillV, fillS, cv, cvC, cvS, cvL, cvU, Ty.size, Ty.isAgg, Ty.dflt, elems, appV, mkI, mmI, NatBeq, NatBlt, NatBle, Nat.reduceBEq, Nat.reduceLT, Nat.reduceLeDiff, Nat.reduceAdd, Nat.reduceSub, Nat.reduceMul, Nat.reduceEqDiff, decide_true, decide_false, List.length_cons, List.length_nil, List.nil_append, List.cons_append, List.append_nil, List.getElem?_cons_zero, List.getElem?_cons_succ, List.take_zero, List.set_cons_zero, List.set_cons_succ, true_implies, false_implies, forall_const, and_true, true_and, and_self, Bool.false_eq_true, reduceCtorEq, if_false, if_true, ↓reduceIte, decide_eq_true_eq, decide_eq_false_iff_not, Bool.not_true, Bool.not_false, not_true_eq_false, not_false_eq_true, Int.reduceEq, Int.reduceLT, Int.reduceLE, Int.reduceNe, Int.reduceAdd, Int.reduceSub, Int.reduceMul, Int.reduceToNat, subL_cons, subL_zero, List.replicate_succ, List.replicate_zero, Nat.zero_add, Nat.mul_one, Nat.one_mul, List.isEmpty_cons, List.isEmpty_nil, splice, rangeEnd, endF, shA, shAs, shB, shRowB, setTs, bodyW, roundW, endRoundW, outMarks_cons, noDfr, fillD]
  refine loop_rule (α := Nat × Int) (fun a => ⟨[(8, I a.1), (7, I xs.length), (6, IL xs), (3, I a.2)], [], []⟩) (fun a => a.1 ≤ xs.length ∧ (1 ≤ a.2 ∧ a.2 ≤ 4096) ∧ sizeL (xs.drop a.1) a.2 = some n) (fun a => xs.length - a.1)
    [8, 7, 6, 3] 0 (0, 1) rfl ⟨rfl, rfl, rfl⟩ rfl ⟨by simp only; omega, by omega, hn⟩ ?_
  rintro ⟨k, s⟩ ⟨hk, hs, he⟩
  simp only at hk hs he
  simp -implicitDefEqProofs only [c36L0, vnD_mk, vopsD_nil, vopsD_one, vopsD_grd, vgD_true, vgD_false, vgD_dec, vgD_und, det_ret, det_nd, det_fail, det_br, awp_skip, awp_ret, awp_exit, awp_seq, awp_block, awp_loop, awp_reg, regK_mk, awp_regD, regD_mk, awp_cond, condW_dec, condW_not, condW_true, condW_false, thn_n, thn_x, thn_r, brk_n, brk_r, brk_x, vnext_mk, vops_nil, vops_one, vops_grd, vgd_true, vgd_false, vgd_dec, vgd_not, vgd_und, sem_ret, sem_nd, sem_fail, sem_br, bind_ret, bind_nd, bind_fail, bind_br, ofOpt_some, ofOpt_none, finW_n, finW_r, outMarks_nil, vop, ev, evL, getT, setT, putT, binV, binI, binB, shiftI, kEq, unV, negI, convV, lenV, lenSV, bnd, getR, sliceOf, castD_self, rng, enumT, okCells, cellsV, cellsD, fillV, fillS, cv, cvC, cvS, cvL, cvU, Ty.size, Ty.isAgg, Ty.dflt, elems, appV, mkI, mmI, NatBeq, NatBlt, NatBle, Nat.reduceBEq, Nat.reduceLT, Nat.reduceLeDiff, Nat.reduceAdd, Nat.reduceSub, Nat.reduceMul, Nat.reduceEqDiff, decide_true, decide_false, List.length_cons, List.length_nil, List.nil_append, List.cons_append, List.append_nil, List.getElem?_cons_zero, List.getElem?_cons_succ, List.take_zero, List.set_cons_zero, List.set_cons_succ, true_implies, false_implies, forall_const, and_true, true_and, and_self, Bool.false_eq_true, reduceCtorEq, if_false, if_true, ↓reduceIte, decide_eq_true_eq, decide_eq_false_iff_not, Bool.not_true, Bool.not_false, not_true_eq_false, not_false_eq_true, Int.reduceEq, Int.reduceLT, Int.reduceLE, Int.reduceNe, Int.reduceAdd, Int.reduceSub, Int.reduceMul, Int.reduceToNat, subL_cons, subL_zero, List.replicate_succ, List.replicate_zero, Nat.zero_add, Nat.mul_one, Nat.one_mul, List.isEmpty_cons, List.isEmpty_nil, splice, rangeEnd, endF, shA, shAs, shB, shRowB, setTs, bodyW, roundW, endRoundW, outMarks_cons, noDfr, fillD]
  simp only [inR, Int.toNat_natCast]
  refine ⟨fun h => ?_, fun h => ?_⟩
  · have hk' : k < xs.length := by omega
    rw [drop_at (d := 0) hk'] at he
    obtain ⟨c, hc⟩ : ∃ c, xs.getD k 0 = c := ⟨_, rfl⟩
    rw [hc] at he
    simp only [hc]
    obtain ⟨h1, h2, h3⟩ := sizeL_pos he
    have h4 : 1 * 1 ≤ s * c := Int.mul_le_mul (by omega) (by omega) (by omega) (by omega)
    exact ⟨by omega, by omega, by omega, (k + 1, s * c), ⟨by simp only; omega, by simp only; omega, h3⟩, by simp only; omega, ⟨rfl, rfl, rfl⟩, rfl⟩
  · have hk' : xs.length ≤ k := by omega
    rw [List.drop_eq_nil_of_le hk'] at he
    cases he
    exact finK_of 0 rfl rfl ⟨rfl, rfl⟩
end Go.Proofs.Ytcplbmlebogffaa

namespace Go.Proofs.Ytcplbmlebogffaa
open Go GoV
set_option maxHeartbeats 2000000

def zerB (n : Nat) : List Bool := List.replicate n false

theorem refperm_vc (p : List Int) (n : Int) (hl : p.length ≤ 100000) : VCalls Try.prog 35 [IL p, I n] [] (fun v fr => v = B (decide ((p.length : Int) = n) && distinctL n false (zerB n.toNat) (-1) p) ∧ fr = []) := by
  refine vcalls_fn hmix h35 rfl ?_
  simp -implicitDefEqProofs only [c35, vnD_mk, vopsD_nil, vopsD_one, vopsD_grd, vgD_true, vgD_false, vgD_dec, vgD_und, det_ret, det_nd, det_fail, det_br, awp_skip, awp_ret, awp_exit, awp_seq, awp_block, awp_loop, awp_reg, regK_mk, awp_regD, regD_mk, awp_cond, condW_dec, condW_not, condW_true, condW_false, thn_n, thn_x, thn_r, brk_n, brk_r, brk_x, vnext_mk, vops_nil, vops_one, vops_grd, vgd_true, vgd_false, vgd_dec, vgd_not, vgd_und, sem_ret, sem_nd, sem_fail, sem_br, bind_ret, bind_nd, bind_fail, bind_br, ofOpt_some, ofOpt_none, finW_n, finW_r, outMarks_nil, vop, ev, evL, getT, setT, putT, binV, binI, binB, shiftI, kEq, unV, negI, convV, lenV, lenSV, bnd, getR, sliceOf, castD_self, rng, enumT, okCells, cellsV, cellsD, fillV, fillS, cv, cvC, cvS, cvL, cvU, Ty.size, Ty.isAgg, Ty.dflt, elems, appV, mkI, mmI, NatBeq, NatBlt, NatBle, Nat.reduceBEq, Nat.reduceLT, Nat.reduceLeDiff, Nat.reduceAdd, Nat.reduceSub, Nat.reduceMul, Nat.reduceEqDiff, decide_true, decide_false, List.length_cons, List.length_nil, List.nil_append, List.cons_append, List.append_nil, List.getElem?_cons_zero, List.getElem?_cons_succ, List.take_zero, List.set_cons_zero, List.set_cons_succ, true_implies, false_implies, forall_const, and_true, true_and, and_self, Bool.false_eq_true, reduceCtorEq, if_false, if_true, ↓reduceIte, decide_eq_true_eq, decide_eq_false_iff_not, Bool.not_true, Bool.not_false, not_true_eq_false, not_false_eq_true, Int.reduceEq, Int.reduceLT, Int.reduceLE, Int.reduceNe, Int.reduceAdd, Int.reduceSub, Int.reduceMul, Int.reduceToNat, subL_cons, subL_zero, List.replicate_succ, List.replicate_zero, Nat.zero_add, Nat.mul_one, Nat.one_mul, List.isEmpty_cons, List.isEmpty_nil, splice, rangeEnd, endF, shA, shAs, shB, shRowB, setTs, bodyW, roundW, endRoundW, outMarks_cons, noDfr, fillD]
  refine ⟨fun h => ?_, fun h => ⟨by simp only [two47]; omega, ?_⟩⟩
  · refine finK_of 0 rfl rfl ⟨?_, rfl⟩
    rw [decide_eq_false h]; rfl
  rw [decide_eq_true h, Bool.true_and]
  subst h
  simp only [Int.toNat_natCast]
  refine loop_rule (α := Nat × List Bool × Int) (fun a => ⟨[(6, I a.1), (5, .slc 0 p.length 0 p.length), (1, I p.length), (0, IL p)], [.seq .bool a.2.1 true], []⟩) (fun a => a.1 ≤ p.length ∧ a.2.1.length = p.length ∧ distinctL p.length false (zerB p.length) (-1) p = distinctL p.length false a.2.1 a.2.2 (p.drop a.1)) (fun a => p.length - a.1)
    [6, 5, 1, 0] 1 (0, zerB p.length, -1) rfl ⟨rfl, rfl, rfl⟩ rfl ⟨by simp only; omega, by simp [zerB], rfl⟩ ?_
  rintro ⟨k, S, last⟩ ⟨hk, hS, he⟩
  simp only at hk he hS
  simp -implicitDefEqProofs only [c35L0, vnD_mk, vopsD_nil, vopsD_one, vopsD_grd, vgD_true, vgD_false, vgD_dec, vgD_und, det_ret, det_nd, det_fail, det_br, awp_skip, awp_ret, awp_exit, awp_seq, awp_block, awp_loop, awp_reg, regK_mk, awp_regD, regD_mk, awp_cond, condW_dec, condW_not, condW_true, condW_false, thn_n, thn_x, thn_r, brk_n, brk_r, brk_x, vnext_mk, vops_nil, vops_one, vops_grd, vgd_true, vgd_false, vgd_dec, vgd_not, vgd_und, sem_ret, sem_nd, sem_fail, sem_br, bind_ret, bind_nd, bind_fail, bind_br, ofOpt_some, ofOpt_none, finW_n, finW_r, outMarks_nil, vop, ev, evL, getT, setT, putT, binV, binI, binB, shiftI, kEq, unV, negI, convV, lenV, lenSV, bnd, getR, sliceOf, castD_self, rng, enumT, okCells, cellsV, cellsD, fillV, fillS, cv, cvC, cvS, cvL, cvU, Ty.size, Ty.isAgg, Ty.dflt, elems, appV, mkI, mmI, NatBeq, NatBlt, NatBle, Nat.reduceBEq, Nat.reduceLT, Nat.reduceLeDiff, Nat.reduceAdd, Nat.reduceSub, Nat.reduceMul, Nat.reduceEqDiff, decide_true, decide_false, List.length_cons, List.length_nil, List.nil_append, List.cons_append, List.append_nil, List.getElem?_cons_zero, List.getElem?_cons_succ, List.take_zero, List.set_cons_zero, List.set_cons_succ, true_implies, false_implies, forall_const, and_true, true_and, and_self, Bool.false_eq_true, reduceCtorEq, if_false, if_true, ↓reduceIte, decide_eq_true_eq, decide_eq_false_iff_not, Bool.not_true, Bool.not_false, not_true_eq_false, not_false_eq_true, Int.reduceEq, Int.reduceLT, Int.reduceLE, Int.reduceNe, Int.reduceAdd, Int.reduceSub, Int.reduceMul, Int.reduceToNat, subL_cons, subL_zero, List.replicate_succ, List.replicate_zero, Nat.zero_add, Nat.mul_one, Nat.one_mul, List.isEmpty_cons, List.isEmpty_nil, splice, rangeEnd, endF, shA, shAs, shB, shRowB, setTs, bodyW, roundW, endRoundW, outMarks_cons, noDfr, fillD]
  simp only [Int.toNat_natCast]
  simp only [inR]
  refine ⟨fun h => ⟨by omega, ?_⟩, fun h => ?_⟩
  · have h1 : k < p.length := by omega
    rw [drop_at (d := 0) h1] at he
    obtain ⟨x, hx⟩ : ∃ x, p.getD k 0 = x := ⟨_, rfl⟩
    rw [hx] at he
    simp only [hx]
    simp only [distinctL] at he
    refine ⟨fun h2 => ?_, fun h2 => ⟨by omega, fun h3 => ?_, fun h3 => ⟨by omega, by omega, hS, ⟨hS, by omega⟩, ?_⟩⟩⟩
    · refine finK_of 0 rfl rfl ⟨?_, rfl⟩
      rw [he, if_pos (.inl (.inl (.inl h2)))]; rfl
    · refine finK_of 0 rfl rfl ⟨?_, rfl⟩
      rw [he, if_pos (.inl (.inl (.inr h3)))]; rfl
    obtain ⟨b, hb⟩ : ∃ b, S.getD x.toNat false = b := ⟨_, rfl⟩
    rw [hb] at he
    simp only [hb]
    cases b with
    | true =>
      rw [condW_true]
      refine finK_of 0 rfl rfl ⟨?_, rfl⟩
      rw [he, if_pos (.inl (.inr rfl))]; rfl
    | false =>
      rw [condW_false]
      refine ⟨by omega, by omega, hS, ⟨hS, by omega⟩, by omega, (k + 1, S.set x.toNat true, x), ⟨by simp only; omega, by simp [hS], ?_⟩, by simp only; omega, ⟨rfl, rfl, rfl⟩, rfl⟩
      rw [he, if_neg (by simp; omega)]
  · have h1 : p.length ≤ k := by omega
    rw [List.drop_eq_nil_of_le h1] at he
    exact finK_of 0 rfl rfl ⟨by rw [he]; rfl, rfl⟩
end Go.Proofs.Ytcplbmlebogffaa

namespace Go.Proofs.Ytcplbmlebogffaa
open Go GoV
set_option maxHeartbeats 2000000

theorem numOK_of {n : Int} : ∀ (cs vs : List Int) (i s : Int), (0 ≤ i ∧ i < s) → s ≤ 4096 → sizeL cs s = some n → withinL vs cs = true → numOK i cs vs
  | [], [], _, _, _, _, _, _ => trivial
  | c :: cs, v :: vs, i, s, hi, hs, h, hw => by
    obtain ⟨h1, h2, h3⟩ := sizeL_pos h
    simp only [withinL, Bool.and_eq_true, decide_eq_true_eq] at hw
    have e1 : 0 ≤ i * c := Int.mul_nonneg hi.1 (by omega)
    have e2 : i * c ≤ (s - 1) * c := Int.mul_le_mul_of_nonneg_right (by omega) (by omega)
    have e3 : (s - 1) * c = s * c - c := by rw [Int.sub_mul, Int.one_mul]
    exact ⟨by simp only [inR]; omega, by simp only [inR]; omega, numOK_of cs vs (i * c + v) (s * c) ⟨by omega, by omega⟩ h2 h3 hw.2⟩
  | [], _ :: _, _, _, _, _, _, hw => by cases hw
  | _ :: _, [], _, _, _, _, _, hw => by cases hw

def indexS (cards vals : List Int) : AV := match sizeS cards with
  | some _ => if withinL vals cards = true then .tup [I (numL 0 cards vals), I 0] else .tup [I 0, I 2]
  | none => .tup [I 0, I 20]

theorem index_vc (cards vals : List Int) (hl : vals.length ≤ 100000) : VCalls Try.prog 23 [IL cards, IL vals] [] (fun v fr => v = indexS cards vals ∧ fr = []) := by
  refine vcalls_fn hmix h23 rfl ?_
  simp -implicitDefEqProofs only [c23, vnD_mk, vopsD_nil, vopsD_one, vopsD_grd, vgD_true, vgD_false, vgD_dec, vgD_und, det_ret, det_nd, det_fail, det_br, awp_skip, awp_ret, awp_exit, awp_seq, awp_block, awp_loop, awp_reg, regK_mk, awp_regD, regD_mk, awp_cond, condW_dec, condW_not, condW_true, condW_false, thn_n, thn_x, thn_r, brk_n, brk_r, brk_x, vnext_mk, vops_nil, vops_one, vops_grd, vgd_true, vgd_false, vgd_dec, vgd_not, vgd_und, sem_ret, sem_nd, sem_fail, sem_br, bind_ret, bind_nd, bind_fail, bind_br, ofOpt_some, ofOpt_none, finW_n, finW_r, outMarks_nil, vop, ev, evL, getT, setT, putT, binV, binI, binB, shiftI, kEq, unV, negI, convV, lenV, lenSV, bnd, getR, sliceOf, castD_self, rng, enumT, okCells, cellsV, cellsD, fillV, fillS, cv, cvC, cvS, cvL, cvU, Ty.size, Ty.isAgg, Ty.dflt, elems, appV, mkI, mmI, NatBeq, NatBlt, NatBle, Nat.reduceBEq, Nat.reduceLT, Nat.reduceLeDiff, Nat.reduceAdd, Nat.reduceSub, Nat.reduceMul, Nat.reduceEqDiff, decide_true, decide_false, List.length_cons, List.length_nil, List.nil_append, List.cons_append, List.append_nil, List.getElem?_cons_zero, List.getElem?_cons_succ, List.take_zero, List.set_cons_zero, List.set_cons_succ, true_implies, false_implies, forall_const, and_true, true_and, and_self, Bool.false_eq_true, reduceCtorEq, if_false, if_true, ↓reduceIte, decide_eq_true_eq, decide_eq_false_iff_not, Bool.not_true, Bool.not_false, not_true_eq_false, not_false_eq_true, Int.reduceEq, Int.reduceLT, Int.reduceLE, Int.reduceNe, Int.reduceAdd, Int.reduceSub, Int.reduceMul, Int.reduceToNat, subL_cons, subL_zero, List.replicate_succ, List.replicate_zero, Nat.zero_add, Nat.mul_one, Nat.one_mul, List.isEmpty_cons, List.isEmpty_nil, splice, rangeEnd, endF, shA, shAs, shB, shRowB, setTs, bodyW, roundW, endRoundW, outMarks_cons, noDfr, fillD]
  refine read_rule (check_vc cards) ⟨rfl, trivial⟩ rfl ?_
  cases hq : sizeS cards with
  | none =>
    simp -implicitDefEqProofs only [shA, shAs, shRows, vnD_mk, vopsD_nil, vopsD_one, vopsD_grd, vgD_true, vgD_false, vgD_dec, vgD_und, det_ret, det_nd, det_fail, det_br, awp_skip, awp_ret, awp_exit, awp_seq, awp_block, awp_loop, awp_reg, regK_mk, awp_regD, regD_mk, awp_cond, condW_dec, condW_not, condW_true, condW_false, thn_n, thn_x, thn_r, brk_n, brk_r, brk_x, vnext_mk, vops_nil, vops_one, vops_grd, vgd_true, vgd_false, vgd_dec, vgd_not, vgd_und, sem_ret, sem_nd, sem_fail, sem_br, bind_ret, bind_nd, bind_fail, bind_br, ofOpt_some, ofOpt_none, finW_n, finW_r, outMarks_nil, vop, ev, evL, getT, setT, putT, binV, binI, binB, shiftI, kEq, unV, negI, convV, lenV, lenSV, bnd, getR, sliceOf, castD_self, rng, enumT, okCells, cellsV, cellsD, fillV, fillS, cv, cvC, cvS, cvL, cvU, Ty.size, Ty.isAgg, Ty.dflt, elems, appV, mkI, mmI, NatBeq, NatBlt, NatBle, Nat.reduceBEq, Nat.reduceLT, Nat.reduceLeDiff, Nat.reduceAdd, Nat.reduceSub, Nat.reduceMul, Nat.reduceEqDiff, decide_true, decide_false, List.length_cons, List.length_nil, List.nil_append, List.cons_append, List.append_nil, List.getElem?_cons_zero, List.getElem?_cons_succ, List.take_zero, List.set_cons_zero, List.set_cons_succ, true_implies, false_implies, forall_const, and_true, true_and, and_self, Bool.false_eq_true, reduceCtorEq, if_false, if_true, ↓reduceIte, decide_eq_true_eq, decide_eq_false_iff_not, Bool.not_true, Bool.not_false, not_true_eq_false, not_false_eq_true, Int.reduceEq, Int.reduceLT, Int.reduceLE, Int.reduceNe, Int.reduceAdd, Int.reduceSub, Int.reduceMul, Int.reduceToNat, subL_cons, subL_zero, List.replicate_succ, List.replicate_zero, Nat.zero_add, Nat.mul_one, Nat.one_mul, List.isEmpty_cons, List.isEmpty_nil, splice, rangeEnd, endF, shA, shAs, shB, shRowB, setTs, bodyW, roundW, endRoundW, outMarks_cons, noDfr, fillD]
    refine finK_of 0 rfl rfl ⟨?_, rfl⟩
    simp only [indexS, hq]; rfl
  | some n =>
    simp -implicitDefEqProofs only [shA, shAs, shRows, vnD_mk, vopsD_nil, vopsD_one, vopsD_grd, vgD_true, vgD_false, vgD_dec, vgD_und, det_ret, det_nd, det_fail, det_br, awp_skip, awp_ret, awp_exit, awp_seq, awp_block, awp_loop, awp_reg, regK_mk, awp_regD, regD_mk, awp_cond, condW_dec, condW_not, condW_true, condW_false, thn_n, thn_x, thn_r, brk_n, brk_r, brk_x, vnext_mk, vops_nil, vops_one, vops_grd, vgd_true, vgd_false, vgd_dec, vgd_not, vgd_und, sem_ret, sem_nd, sem_fail, sem_br, bind_ret, bind_nd, bind_fail, bind_br, ofOpt_some, ofOpt_none, finW_n, finW_r, outMarks_nil, vop, ev, evL, getT, setT, putT, binV, binI, binB, shiftI, kEq, unV, negI, convV, lenV, lenSV, bnd, getR, sliceOf, castD_self, rng, enumT, okCells, cellsV, cellsD, fillV, fillS, cv, cvC, cvS, cvL, cvU, Ty.size, Ty.isAgg, Ty.dflt, elems, appV, mkI, mmI, NatBeq, NatBlt, NatBle, Nat.reduceBEq, Nat.reduceLT, Nat.reduceLeDiff, Nat.reduceAdd, Nat.reduceSub, Nat.reduceMul, Nat.reduceEqDiff, decide_true, decide_false, List.length_cons, List.length_nil, List.nil_append, List.cons_append, List.append_nil, List.getElem?_cons_zero, List.getElem?_cons_succ, List.take_zero, List.set_cons_zero, List.set_cons_succ, true_implies, false_implies, forall_const, and_true, true_and, and_self, Bool.false_eq_true, reduceCtorEq, if_false, if_true, ↓reduceIte, decide_eq_true_eq, decide_eq_false_iff_not, Bool.not_true, Bool.not_false, not_true_eq_false, not_false_eq_true, Int.reduceEq, Int.reduceLT, Int.reduceLE, Int.reduceNe, Int.reduceAdd, Int.reduceSub, Int.reduceMul, Int.reduceToNat, subL_cons, subL_zero, List.replicate_succ, List.replicate_zero, Nat.zero_add, Nat.mul_one, Nat.one_mul, List.isEmpty_cons, List.isEmpty_nil, splice, rangeEnd, endF, shA, shAs, shB, shRowB, setTs, bodyW, roundW, endRoundW, outMarks_cons, noDfr, fillD]
    refine read_rule (within_vc vals cards (by omega)) ⟨rfl, rfl, trivial⟩ rfl ?_
    cases hw : withinL vals cards with
    | false =>
      simp -implicitDefEqProofs only [shA, shAs, shRows, vnD_mk, vopsD_nil, vopsD_one, vopsD_grd, vgD_true, vgD_false, vgD_dec, vgD_und, det_ret, det_nd, det_fail, det_br, awp_skip, awp_ret, awp_exit, awp_seq, awp_block, awp_loop, awp_reg, regK_mk, awp_regD, regD_mk, awp_cond, condW_dec, condW_not, condW_true, condW_false, thn_n, thn_x, thn_r, brk_n, brk_r, brk_x, vnext_mk, vops_nil, vops_one, vops_grd, vgd_true, vgd_false, vgd_dec, vgd_not, vgd_und, sem_ret, sem_nd, sem_fail, sem_br, bind_ret, bind_nd, bind_fail, bind_br, ofOpt_some, ofOpt_none, finW_n, finW_r, outMarks_nil, vop, ev, evL, getT, setT, putT, binV, binI, binB, shiftI, kEq, unV, negI, convV, lenV, lenSV, bnd, getR, sliceOf, castD_self, rng, enumT, okCells, cellsV, cellsD, fillV, fillS, cv, cvC, cvS, cvL, cvU, Ty.size, Ty.isAgg, Ty.dflt, elems, appV, mkI, mmI, NatBeq, NatBlt, NatBle, Nat.reduceBEq, Nat.reduceLT, Nat.reduceLeDiff, Nat.reduceAdd, Nat.reduceSub, Nat.reduceMul, Nat.reduceEqDiff, decide_true, decide_false, List.length_cons, List.length_nil, List.nil_append, List.cons_append, List.append_nil, List.getElem?_cons_zero, List.getElem?_cons_succ, List.take_zero, List.set_cons_zero, List.set_cons_succ, true_implies, false_implies, forall_const, and_true, true_and, and_self, Bool.false_eq_true, reduceCtorEq, if_false, if_true, ↓reduceIte, decide_eq_true_eq, decide_eq_false_iff_not, Bool.not_true, Bool.not_false, not_true_eq_false, not_false_eq_true, Int.reduceEq, Int.reduceLT, Int.reduceLE, Int.reduceNe, Int.reduceAdd, Int.reduceSub, Int.reduceMul, Int.reduceToNat, subL_cons, subL_zero, List.replicate_succ, List.replicate_zero, Nat.zero_add, Nat.mul_one, Nat.one_mul, List.isEmpty_cons, List.isEmpty_nil, splice, rangeEnd, endF, shA, shAs, shB, shRowB, setTs, bodyW, roundW, endRoundW, outMarks_cons, noDfr, fillD]
      refine finK_of 0 rfl rfl ⟨?_, rfl⟩
      simp only [indexS, hq, hw]; rfl
    | true =>
      simp -implicitDefEqProofs only [shA, shAs, shRows, vnD_mk, vopsD_nil, vopsD_one, vopsD_grd, vgD_true, vgD_false, vgD_dec, vgD_und, det_ret, det_nd, det_fail, det_br, awp_skip, awp_ret, awp_exit, awp_seq, awp_block, awp_loop, awp_reg, regK_mk, awp_regD, regD_mk, awp_cond, condW_dec, condW_not, condW_true, condW_false, thn_n, thn_x, thn_r, brk_n, brk_r, brk_x, vnext_mk, vops_nil, vops_one, vops_grd, vgd_true, vgd_false, vgd_dec, vgd_not, vgd_und, sem_ret, sem_nd, sem_fail, sem_br, bind_ret, bind_nd, bind_fail, bind_br, ofOpt_some, ofOpt_none, finW_n, finW_r, outMarks_nil, vop, ev, evL, getT, setT, putT, binV, binI, binB, shiftI, kEq, unV, negI, convV, lenV, lenSV, bnd, getR, sliceOf, castD_self, rng, enumT, okCells, cellsV, cellsD, fillV, fillS, cv, cvC, cvS, cvL, cvU, Ty.size, Ty.isAgg, Ty.dflt, elems, appV, mkI, mmI, NatBeq, NatBlt, NatBle, Nat.reduceBEq, Nat.reduceLT, Nat.reduceLeDiff, Nat.reduceAdd, Nat.reduceSub, Nat.reduceMul, Nat.reduceEqDiff, decide_true, decide_false, List.length_cons, List.length_nil, List.nil_append, List.cons_append, List.append_nil, List.getElem?_cons_zero, List.getElem?_cons_succ, List.take_zero, List.set_cons_zero, List.set_cons_succ, true_implies, false_implies, forall_const, and_true, true_and, and_self, Bool.false_eq_true, reduceCtorEq, if_false, if_true, ↓reduceIte, decide_eq_true_eq, decide_eq_false_iff_not, Bool.not_true, Bool.not_false, not_true_eq_false, not_false_eq_true, Int.reduceEq, Int.reduceLT, Int.reduceLE, Int.reduceNe, Int.reduceAdd, Int.reduceSub, Int.reduceMul, Int.reduceToNat, subL_cons, subL_zero, List.replicate_succ, List.replicate_zero, Nat.zero_add, Nat.mul_one, Nat.one_mul, List.isEmpty_cons, List.isEmpty_nil, splice, rangeEnd, endF, shA, shAs, shB, shRowB, setTs, bodyW, roundW, endRoundW, outMarks_cons, noDfr, fillD]
      have hz : sizeL cards 1 = some n := by
        unfold sizeS at hq
        split at hq
        · cases hq
        · exact hq
      refine read_rule (number_vc cards vals (by omega) (numOK_of cards vals 0 1 (by omega) (by omega) hz hw)) ⟨rfl, rfl, trivial⟩ rfl ?_
      simp -implicitDefEqProofs only [shA, shAs, shRows, vnD_mk, vopsD_nil, vopsD_one, vopsD_grd, vgD_true, vgD_false, vgD_dec, vgD_und, det_ret, det_nd, det_fail, det_br, awp_skip, awp_ret, awp_exit, awp_seq, awp_block, awp_loop, awp_reg, regK_mk, awp_regD, regD_mk, awp_cond, condW_dec, condW_not, condW_true, condW_false, thn_n, thn_x, thn_r, brk_n, brk_r, brk_x, vnext_mk, vops_nil, vops_one, vops_grd, vgd_true, vgd_false, vgd_dec, vgd_not, vgd_und, sem_ret, sem_nd, sem_fail, sem_br, bind_ret, bind_nd, bind_fail, bind_br, ofOpt_some, ofOpt_none, finW_n, finW_r, outMarks_nil, vop, ev, evL, getT, setT, putT, binV, binI, binB, shiftI, kEq, unV, negI, convV, lenV, lenSV, bnd, getR, sliceOf, castD_self, rng, enumT, okCells, cellsV, cellsD, fillV, fillS, cv, cvC, cvS, cvL, cvU, Ty.size, Ty.isAgg, Ty.dflt, elems, appV, mkI, mmI, NatBeq, NatBlt, NatBle, Nat.reduceBEq, Nat.reduceLT, Nat.reduceLeDiff, Nat.reduceAdd, Nat.reduceSub, Nat.reduceMul, Nat.reduceEqDiff, decide_true, decide_false, List.length_cons, List.length_nil, List.nil_append, List.cons_append, List.append_nil, List.getElem?_cons_zero, List.getElem?_cons_succ, List.take_zero, List.set_cons_zero, List.set_cons_succ, true_implies, false_implies, forall_const, and_true, true_and, and_self, Bool.false_eq_true, reduceCtorEq, if_false, if_true, ↓reduceIte, decide_eq_true_eq, decide_eq_false_iff_not, Bool.not_true, Bool.not_false, not_true_eq_false, not_false_eq_true, Int.reduceEq, Int.reduceLT, Int.reduceLE, Int.reduceNe, Int.reduceAdd, Int.reduceSub, Int.reduceMul, Int.reduceToNat, subL_cons, subL_zero, List.replicate_succ, List.replicate_zero, Nat.zero_add, Nat.mul_one, Nat.one_mul, List.isEmpty_cons, List.isEmpty_nil, splice, rangeEnd, endF, shA, shAs, shB, shRowB, setTs, bodyW, roundW, endRoundW, outMarks_cons, noDfr, fillD]
      refine finK_of 0 rfl rfl ⟨?_, rfl⟩
      simp only [indexS, hq, hw]; rfl
end Go.Proofs.Ytcplbmlebogffaa

namespace Go.Proofs.Ytcplbmlebogffaa
open Go GoV
set_option maxHeartbeats 2000000

theorem digits_vc (cards : List Int) (i : Int) : VCalls Try.prog 55 [IL cards, I i] [] (fun v fr => v = .fn 57 [] [.ptr 0 0, .ptr 1 0] ∧ fr = [.box [IL cards], .box [I i]]) := by
  refine vcalls_fn hmix h55 rfl ?_
  simp -implicitDefEqProofs only [c55, vnD_mk, vopsD_nil, vopsD_one, vopsD_grd, vgD_true, vgD_false, vgD_dec, vgD_und, det_ret, det_nd, det_fail, det_br, awp_skip, awp_ret, awp_exit, awp_seq, awp_block, awp_loop, awp_reg, regK_mk, awp_regD, regD_mk, awp_cond, condW_dec, condW_not, condW_true, condW_false, thn_n, thn_x, thn_r, brk_n, brk_r, brk_x, vnext_mk, vops_nil, vops_one, vops_grd, vgd_true, vgd_false, vgd_dec, vgd_not, vgd_und, sem_ret, sem_nd, sem_fail, sem_br, bind_ret, bind_nd, bind_fail, bind_br, ofOpt_some, ofOpt_none, finW_n, finW_r, outMarks_nil, vop, ev, evL, getT, setT, putT, binV, binI, binB, shiftI, kEq, unV, negI, convV, lenV, lenSV, bnd, getR, sliceOf, castD_self, rng, enumT, okCells, cellsV, cellsD, fillV, fillS, cv, cvC, cvS, cvL, cvU, Ty.size, Ty.isAgg, Ty.dflt, elems, appV, mkI, mmI, NatBeq, NatBlt, NatBle, Nat.reduceBEq, Nat.reduceLT, Nat.reduceLeDiff, Nat.reduceAdd, Nat.reduceSub, Nat.reduceMul, Nat.reduceEqDiff, decide_true, decide_false, List.length_cons, List.length_nil, List.nil_append, List.cons_append, List.append_nil, List.getElem?_cons_zero, List.getElem?_cons_succ, List.take_zero, List.set_cons_zero, List.set_cons_succ, true_implies, false_implies, forall_const, and_true, true_and, and_self, Bool.false_eq_true, reduceCtorEq, if_false, if_true, ↓reduceIte, decide_eq_true_eq, decide_eq_false_iff_not, Bool.not_true, Bool.not_false, not_true_eq_false, not_false_eq_true, Int.reduceEq, Int.reduceLT, Int.reduceLE, Int.reduceNe, Int.reduceAdd, Int.reduceSub, Int.reduceMul, Int.reduceToNat, subL_cons, subL_zero, List.replicate_succ, List.replicate_zero, Nat.zero_add, Nat.mul_one, Nat.one_mul, List.isEmpty_cons, List.isEmpty_nil, splice, rangeEnd, endF, shA, shAs, shB, shRowB, setTs, bodyW, roundW, endRoundW, outMarks_cons, noDfr, fillD]
  exact finK_of 2 rfl rfl ⟨rfl, rfl⟩

def combT (cards : List Int) (i : Int) : List (Nat × AV) := [(13, AV.fn 57 [] [.ptr 2 0, .ptr 3 0]), (12, I i), (11, IL cards), (10, .slc 0 cards.length 0 cards.length), (9, I (cards.length : Int)), (8, IL cards), (5, .ptr 1 0), (4, .nils), (1, I i), (0, IL cards)]

theorem comb_pc (cards : List Int) (i : Int) (hn : cards.length ≤ 100000) (hc : ∀ c ∈ cards, 1 ≤ c) (hi : 0 ≤ i ∧ i ≤ 9223372036854775807) : PC Try.prog 45 [IL cards, I i] (IL (digs cards i).1) := by
  refine pc_fn hmix h45 rfl ?_
  simp -implicitDefEqProofs only [c45, vnD_mk, vopsD_nil, vopsD_one, vopsD_grd, vgD_true, vgD_false, vgD_dec, vgD_und, det_ret, det_nd, det_fail, det_br, awp_skip, awp_ret, awp_exit, awp_seq, awp_block, awp_loop, awp_reg, regK_mk, awp_regD, regD_mk, awp_cond, condW_dec, condW_not, condW_true, condW_false, thn_n, thn_x, thn_r, brk_n, brk_r, brk_x, vnext_mk, vops_nil, vops_one, vops_grd, vgd_true, vgd_false, vgd_dec, vgd_not, vgd_und, sem_ret, sem_nd, sem_fail, sem_br, bind_ret, bind_nd, bind_fail, bind_br, ofOpt_some, ofOpt_none, finW_n, finW_r, outMarks_nil, vop, ev, evL, getT, setT, putT, binV, binI, binB, shiftI, kEq, unV, negI, convV, lenV, lenSV, bnd, getR, sliceOf, castD_self, rng, enumT, okCells, cellsV, cellsD, fillV, fillS, cv, cvC, cvS, cvL, cvU, Ty.size, Ty.isAgg, Ty.dflt, elems, appV, mkI, mmI, NatBeq, NatBlt, NatBle, Nat.reduceBEq, Nat.reduceLT, Nat.reduceLeDiff, Nat.reduceAdd, Nat.reduceSub, Nat.reduceMul, Nat.reduceEqDiff, decide_true, decide_false, List.length_cons, List.length_nil, List.nil_append, List.cons_append, List.append_nil, List.getElem?_cons_zero, List.getElem?_cons_succ, List.take_zero, List.set_cons_zero, List.set_cons_succ, true_implies, false_implies, forall_const, and_true, true_and, and_self, Bool.false_eq_true, reduceCtorEq, if_false, if_true, ↓reduceIte, decide_eq_true_eq, decide_eq_false_iff_not, Bool.not_true, Bool.not_false, not_true_eq_false, not_false_eq_true, Int.reduceEq, Int.reduceLT, Int.reduceLE, Int.reduceNe, Int.reduceAdd, Int.reduceSub, Int.reduceMul, Int.reduceToNat, subL_cons, subL_zero, List.replicate_succ, List.replicate_zero, Nat.zero_add, Nat.mul_one, Nat.one_mul, List.isEmpty_cons, List.isEmpty_nil, splice, rangeEnd, endF, shA, shAs, shB, shRowB, setTs, bodyW, roundW, endRoundW, outMarks_cons, noDfr, fillD]
  simp only [Int.toNat_natCast, two47]
  refine ⟨by omega, ?_⟩
  refine callA (digits_vc cards i) ⟨rfl, rfl, trivial⟩ rfl ?_
  simp -implicitDefEqProofs only [vnD_mk, vopsD_nil, vopsD_one, vopsD_grd, vgD_true, vgD_false, vgD_dec, vgD_und, det_ret, det_nd, det_fail, det_br, awp_skip, awp_ret, awp_exit, awp_seq, awp_block, awp_loop, awp_reg, regK_mk, awp_regD, regD_mk, awp_cond, condW_dec, condW_not, condW_true, condW_false, thn_n, thn_x, thn_r, brk_n, brk_r, brk_x, vnext_mk, vops_nil, vops_one, vops_grd, vgd_true, vgd_false, vgd_dec, vgd_not, vgd_und, sem_ret, sem_nd, sem_fail, sem_br, bind_ret, bind_nd, bind_fail, bind_br, ofOpt_some, ofOpt_none, finW_n, finW_r, outMarks_nil, vop, ev, evL, getT, setT, putT, binV, binI, binB, shiftI, kEq, unV, negI, convV, lenV, lenSV, bnd, getR, sliceOf, castD_self, rng, enumT, okCells, cellsV, cellsD, fillV, fillS, cv, cvC, cvS, cvL, cvU, Ty.size, Ty.isAgg, Ty.dflt, elems, appV, mkI, mmI, NatBeq, NatBlt, NatBle, Nat.reduceBEq, Nat.reduceLT, Nat.reduceLeDiff, Nat.reduceAdd, Nat.reduceSub, Nat.reduceMul, Nat.reduceEqDiff, decide_true, decide_false, List.length_cons, List.length_nil, List.nil_append, List.cons_append, List.append_nil, List.getElem?_cons_zero, List.getElem?_cons_succ, List.take_zero, List.set_cons_zero, List.set_cons_succ, true_implies, false_implies, forall_const, and_true, true_and, and_self, Bool.false_eq_true, reduceCtorEq, if_false, if_true, ↓reduceIte, decide_eq_true_eq, decide_eq_false_iff_not, Bool.not_true, Bool.not_false, not_true_eq_false, not_false_eq_true, Int.reduceEq, Int.reduceLT, Int.reduceLE, Int.reduceNe, Int.reduceAdd, Int.reduceSub, Int.reduceMul, Int.reduceToNat, subL_cons, subL_zero, List.replicate_succ, List.replicate_zero, Nat.zero_add, Nat.mul_one, Nat.one_mul, List.isEmpty_cons, List.isEmpty_nil, splice, rangeEnd, endF, shA, shAs, shB, shRowB, setTs, bodyW, roundW, endRoundW, outMarks_cons, noDfr, fillD]
  refine rangeF_n rfl (fun _ h2 => ∃ tm' ps' m, h2 = [.seq (.int .i64) (digs cards i).1 true, .box [.slc 0 cards.length 0 cards.length], .box [IL cards], .box [I m], .dfr, .loop .ready none 21 tm' ps' k45a0 k45b0 4]) ?_ ?_
  · refine vcalls_fn hmix h57 rfl ?_
    simp -implicitDefEqProofs only [c57, inR, vnD_mk, vopsD_nil, vopsD_one, vopsD_grd, vgD_true, vgD_false, vgD_dec, vgD_und, det_ret, det_nd, det_fail, det_br, awp_skip, awp_ret, awp_exit, awp_seq, awp_block, awp_loop, awp_reg, regK_mk, awp_regD, regD_mk, awp_cond, condW_dec, condW_not, condW_true, condW_false, thn_n, thn_x, thn_r, brk_n, brk_r, brk_x, vnext_mk, vops_nil, vops_one, vops_grd, vgd_true, vgd_false, vgd_dec, vgd_not, vgd_und, sem_ret, sem_nd, sem_fail, sem_br, bind_ret, bind_nd, bind_fail, bind_br, ofOpt_some, ofOpt_none, finW_n, finW_r, outMarks_nil, vop, ev, evL, getT, setT, putT, binV, binI, binB, shiftI, kEq, unV, negI, convV, lenV, lenSV, bnd, getR, sliceOf, castD_self, rng, enumT, okCells, cellsV, cellsD, fillV, fillS, cv, cvC, cvS, cvL, cvU, Ty.size, Ty.isAgg, Ty.dflt, elems, appV, mkI, mmI, NatBeq, NatBlt, NatBle, Nat.reduceBEq, Nat.reduceLT, Nat.reduceLeDiff, Nat.reduceAdd, Nat.reduceSub, Nat.reduceMul, Nat.reduceEqDiff, decide_true, decide_false, List.length_cons, List.length_nil, List.nil_append, List.cons_append, List.append_nil, List.getElem?_cons_zero, List.getElem?_cons_succ, List.take_zero, List.set_cons_zero, List.set_cons_succ, true_implies, false_implies, forall_const, and_true, true_and, and_self, Bool.false_eq_true, reduceCtorEq, if_false, if_true, ↓reduceIte, decide_eq_true_eq, decide_eq_false_iff_not, Bool.not_true, Bool.not_false, not_true_eq_false, not_false_eq_true, Int.reduceEq, Int.reduceLT, Int.reduceLE, Int.reduceNe, Int.reduceAdd, Int.reduceSub, Int.reduceMul, Int.reduceToNat, subL_cons, subL_zero, List.replicate_succ, List.replicate_zero, Nat.zero_add, Nat.mul_one, Nat.one_mul, List.isEmpty_cons, List.isEmpty_nil, splice, rangeEnd, endF, shA, shAs, shB, shRowB, setTs, bodyW, roundW, endRoundW, outMarks_cons, noDfr, fillD]
    refine ⟨by omega, ?_⟩
    refine loop_w (α := Nat) (fun j => ⟨[(4, I ((j : Int) - 1)), (2, .ptr 3 0), (1, .ptr 2 0), (0, .yld 5)], [.seq (.int .i64) (zer j ++ (digs (cards.drop j) i).1) true, .box [.slc 0 cards.length 0 cards.length], .box [IL cards], .box [I (digs (cards.drop j) i).2], .dfr, .loop .ready none 21 (combT cards i) [14, 15] k45a0 k45b0 4], []⟩)
      (fun j => j ≤ cards.length) (fun j => j) cards.length (wk_cut [4, 2, 1, 0] 6 rfl ⟨rfl, rfl, rfl⟩ ?_) (Nat.le_refl _) ?_
    · rw [List.drop_length, show (digs [] i).1 = [] from rfl, show (digs [] i).2 = i from rfl, List.append_nil]; rfl
    intro j hj
    cases j with
    | zero =>
      simp -implicitDefEqProofs only [c57L0, vnD_mk, vopsD_nil, vopsD_one, vopsD_grd, vgD_true, vgD_false, vgD_dec, vgD_und, det_ret, det_nd, det_fail, det_br, awp_skip, awp_ret, awp_exit, awp_seq, awp_block, awp_loop, awp_reg, regK_mk, awp_regD, regD_mk, awp_cond, condW_dec, condW_not, condW_true, condW_false, thn_n, thn_x, thn_r, brk_n, brk_r, brk_x, vnext_mk, vops_nil, vops_one, vops_grd, vgd_true, vgd_false, vgd_dec, vgd_not, vgd_und, sem_ret, sem_nd, sem_fail, sem_br, bind_ret, bind_nd, bind_fail, bind_br, ofOpt_some, ofOpt_none, finW_n, finW_r, outMarks_nil, vop, ev, evL, getT, setT, putT, binV, binI, binB, shiftI, kEq, unV, negI, convV, lenV, lenSV, bnd, getR, sliceOf, castD_self, rng, enumT, okCells, cellsV, cellsD, fillV, fillS, cv, cvC, cvS, cvL, cvU, Ty.size, Ty.isAgg, Ty.dflt, elems, appV, mkI, mmI, NatBeq, NatBlt, NatBle, Nat.reduceBEq, Nat.reduceLT, Nat.reduceLeDiff, Nat.reduceAdd, Nat.reduceSub, Nat.reduceMul, Nat.reduceEqDiff, decide_true, decide_false, List.length_cons, List.length_nil, List.nil_append, List.cons_append, List.append_nil, List.getElem?_cons_zero, List.getElem?_cons_succ, List.take_zero, List.set_cons_zero, List.set_cons_succ, true_implies, false_implies, forall_const, and_true, true_and, and_self, Bool.false_eq_true, reduceCtorEq, if_false, if_true, ↓reduceIte, decide_eq_true_eq, decide_eq_false_iff_not, Bool.not_true, Bool.not_false, not_true_eq_false, not_false_eq_true, Int.reduceEq, Int.reduceLT, Int.reduceLE, Int.reduceNe, Int.reduceAdd, Int.reduceSub, Int.reduceMul, Int.reduceToNat, subL_cons, subL_zero, List.replicate_succ, List.replicate_zero, Nat.zero_add, Nat.mul_one, Nat.one_mul, List.isEmpty_cons, List.isEmpty_nil, splice, rangeEnd, endF, shA, shAs, shB, shRowB, setTs, bodyW, roundW, endRoundW, outMarks_cons, noDfr, fillD]
      refine ⟨fun h => absurd h (by decide), fun h => finK_of 6 rfl rfl ⟨_, _, _, rfl⟩⟩
    | succ k =>
      have e : ((k + 1 : Nat) : Int) - 1 = k := by omega
      simp only [e]
      simp -implicitDefEqProofs only [c57L0, vnD_mk, vopsD_nil, vopsD_one, vopsD_grd, vgD_true, vgD_false, vgD_dec, vgD_und, det_ret, det_nd, det_fail, det_br, awp_skip, awp_ret, awp_exit, awp_seq, awp_block, awp_loop, awp_reg, regK_mk, awp_regD, regD_mk, awp_cond, condW_dec, condW_not, condW_true, condW_false, thn_n, thn_x, thn_r, brk_n, brk_r, brk_x, vnext_mk, vops_nil, vops_one, vops_grd, vgd_true, vgd_false, vgd_dec, vgd_not, vgd_und, sem_ret, sem_nd, sem_fail, sem_br, bind_ret, bind_nd, bind_fail, bind_br, ofOpt_some, ofOpt_none, finW_n, finW_r, outMarks_nil, vop, ev, evL, getT, setT, putT, binV, binI, binB, shiftI, kEq, unV, negI, convV, lenV, lenSV, bnd, getR, sliceOf, castD_self, rng, enumT, okCells, cellsV, cellsD, fillV, fillS, cv, cvC, cvS, cvL, cvU, Ty.size, Ty.isAgg, Ty.dflt, elems, appV, mkI, mmI, NatBeq, NatBlt, NatBle, Nat.reduceBEq, Nat.reduceLT, Nat.reduceLeDiff, Nat.reduceAdd, Nat.reduceSub, Nat.reduceMul, Nat.reduceEqDiff, decide_true, decide_false, List.length_cons, List.length_nil, List.nil_append, List.cons_append, List.append_nil, List.getElem?_cons_zero, List.getElem?_cons_succ, List.take_zero, List.set_cons_zero, List.set_cons_succ, true_implies, false_implies, forall_const, and_true, true_and, and_self, Bool.false_eq_true, reduceCtorEq, if_false, if_true, ↓reduceIte, decide_eq_true_eq, decide_eq_false_iff_not, Bool.not_true, Bool.not_false, not_true_eq_false, not_false_eq_true, Int.reduceEq, Int.reduceLT, Int.reduceLE, Int.reduceNe, Int.reduceAdd, Int.reduceSub, Int.reduceMul, Int.reduceToNat, subL_cons, subL_zero, List.replicate_succ, List.replicate_zero, Nat.zero_add, Nat.mul_one, Nat.one_mul, List.isEmpty_cons, List.isEmpty_nil, splice, rangeEnd, endF, shA, shAs, shB, shRowB, setTs, bodyW, roundW, endRoundW, outMarks_cons, noDfr, fillD]
      simp only [Int.toNat_natCast, inR]
      refine ⟨fun h => ?_, fun h => by omega⟩
      have hk : k < cards.length := by omega
      have hlr : (zer (k + 1) ++ (digs (List.drop (k + 1) cards) i).1).length = cards.length := by
        rw [List.length_append, zer_length, digs_length, List.length_drop]; omega
      have hm : cards.getD k 0 ∈ cards := by
        have : cards.getD k 0 = cards[k] := by simp [hk]
        rw [this]; exact List.getElem_mem hk
      have hc1 := hc _ hm
      have hd : digs (cards.drop k) i = ((digs (cards.drop (k + 1)) i).2.tmod (cards.getD k 0) :: (digs (cards.drop (k + 1)) i).1, (digs (cards.drop (k + 1)) i).2.tdiv (cards.getD k 0)) := by
        rw [drop_at (d := 0) hk]; rfl
      have hq := digs_left hi.1 (cards.drop k) (fun c h => hc c (List.mem_of_mem_drop h))
      rw [hd] at hq
      simp only at hq
      refine ⟨by omega, by omega, ?_⟩
      refine det_yld hmix (B true) [.seq (.int .i64) (zer k ++ (digs (cards.drop k) i).1) true, .box [.slc 0 cards.length 0 cards.length], .box [IL cards], .box [I (digs (cards.drop (k + 1)) i).2], .dfr, .loop .ready none 21 (combT cards i) [14, 15] k45a0 k45b0 4] rfl h45A0 h45B0 rfl rfl ?_ ?_
      · simp -implicitDefEqProofs only [c45A0, c45B0, combT, vnD_mk, vopsD_nil, vopsD_one, vopsD_grd, vgD_true, vgD_false, vgD_dec, vgD_und, det_ret, det_nd, det_fail, det_br, awp_skip, awp_ret, awp_exit, awp_seq, awp_block, awp_loop, awp_reg, regK_mk, awp_regD, regD_mk, awp_cond, condW_dec, condW_not, condW_true, condW_false, thn_n, thn_x, thn_r, brk_n, brk_r, brk_x, vnext_mk, vops_nil, vops_one, vops_grd, vgd_true, vgd_false, vgd_dec, vgd_not, vgd_und, sem_ret, sem_nd, sem_fail, sem_br, bind_ret, bind_nd, bind_fail, bind_br, ofOpt_some, ofOpt_none, finW_n, finW_r, outMarks_nil, vop, ev, evL, getT, setT, putT, binV, binI, binB, shiftI, kEq, unV, negI, convV, lenV, lenSV, bnd, getR, sliceOf, castD_self, rng, enumT, okCells, cellsV, cellsD, fillV, fillS, cv, cvC, cvS, cvL, cvU, Ty.size, Ty.isAgg, Ty.dflt, elems, appV, mkI, mmI, NatBeq, NatBlt, NatBle, Nat.reduceBEq, Nat.reduceLT, Nat.reduceLeDiff, Nat.reduceAdd, Nat.reduceSub, Nat.reduceMul, Nat.reduceEqDiff, decide_true, decide_false, List.length_cons, List.length_nil, List.nil_append, List.cons_append, List.append_nil, List.getElem?_cons_zero, List.getElem?_cons_succ, List.take_zero, List.set_cons_zero, List.set_cons_succ, true_implies, false_implies, forall_const, and_true, true_and, and_self, Bool.false_eq_true, reduceCtorEq, if_false, if_true, ↓reduceIte, decide_eq_true_eq, decide_eq_false_iff_not, Bool.not_true, Bool.not_false, not_true_eq_false, not_false_eq_true, Int.reduceEq, Int.reduceLT, Int.reduceLE, Int.reduceNe, Int.reduceAdd, Int.reduceSub, Int.reduceMul, Int.reduceToNat, subL_cons, subL_zero, List.replicate_succ, List.replicate_zero, Nat.zero_add, Nat.mul_one, Nat.one_mul, List.isEmpty_cons, List.isEmpty_nil, splice, rangeEnd, endF, shA, shAs, shB, shRowB, setTs, bodyW, roundW, endRoundW, outMarks_cons, noDfr, fillD]
        simp only [Int.toNat_natCast, inR]
        refine ⟨by omega, hlr, ⟨hlr, by omega⟩, ?_⟩
        rw [set_zer, hd]
      · simp -implicitDefEqProofs only [vnD_mk, vopsD_nil, vopsD_one, vopsD_grd, vgD_true, vgD_false, vgD_dec, vgD_und, det_ret, det_nd, det_fail, det_br, awp_skip, awp_ret, awp_exit, awp_seq, awp_block, awp_loop, awp_reg, regK_mk, awp_regD, regD_mk, awp_cond, condW_dec, condW_not, condW_true, condW_false, thn_n, thn_x, thn_r, brk_n, brk_r, brk_x, vnext_mk, vops_nil, vops_one, vops_grd, vgd_true, vgd_false, vgd_dec, vgd_not, vgd_und, sem_ret, sem_nd, sem_fail, sem_br, bind_ret, bind_nd, bind_fail, bind_br, ofOpt_some, ofOpt_none, finW_n, finW_r, outMarks_nil, vop, ev, evL, getT, setT, putT, binV, binI, binB, shiftI, kEq, unV, negI, convV, lenV, lenSV, bnd, getR, sliceOf, castD_self, rng, enumT, okCells, cellsV, cellsD, fillV, fillS, cv, cvC, cvS, cvL, cvU, Ty.size, Ty.isAgg, Ty.dflt, elems, appV, mkI, mmI, NatBeq, NatBlt, NatBle, Nat.reduceBEq, Nat.reduceLT, Nat.reduceLeDiff, Nat.reduceAdd, Nat.reduceSub, Nat.reduceMul, Nat.reduceEqDiff, decide_true, decide_false, List.length_cons, List.length_nil, List.nil_append, List.cons_append, List.append_nil, List.getElem?_cons_zero, List.getElem?_cons_succ, List.take_zero, List.set_cons_zero, List.set_cons_succ, true_implies, false_implies, forall_const, and_true, true_and, and_self, Bool.false_eq_true, reduceCtorEq, if_false, if_true, ↓reduceIte, decide_eq_true_eq, decide_eq_false_iff_not, Bool.not_true, Bool.not_false, not_true_eq_false, not_false_eq_true, Int.reduceEq, Int.reduceLT, Int.reduceLE, Int.reduceNe, Int.reduceAdd, Int.reduceSub, Int.reduceMul, Int.reduceToNat, subL_cons, subL_zero, List.replicate_succ, List.replicate_zero, Nat.zero_add, Nat.mul_one, Nat.one_mul, List.isEmpty_cons, List.isEmpty_nil, splice, rangeEnd, endF, shA, shAs, shB, shRowB, setTs, bodyW, roundW, endRoundW, outMarks_cons, noDfr, fillD]
        simp only [Int.toNat_natCast, inR]
        refine ⟨by omega, ⟨by omega, by omega⟩, by omega, k, by omega, by omega, wk_cut [4, 2, 1, 0] 6 rfl ⟨rfl, rfl, rfl⟩ ?_⟩
        rw [hd]
        rfl
  · rintro _ h2 ⟨tm', ps', m, rfl⟩
    simp -implicitDefEqProofs only [push_cast, Nat.reduceBEq, Nat.reduceLT, Nat.reduceLeDiff, Nat.reduceAdd, Nat.reduceSub, Nat.reduceMul, Nat.reduceEqDiff, reduceCtorEq, ↓reduceIte, Int.reduceEq, Int.reduceLT, Int.reduceLE, Int.reduceNe, Int.reduceAdd, Int.reduceSub, Int.reduceMul, Int.reduceToNat, Nat.reduceShiftRight, Nat.reduceAnd, Nat.reduceBNe]
    exact finR 1 rfl (fz_seq rfl (digs_length cards i))
end Go.Proofs.Ytcplbmlebogffaa

namespace Go.Proofs.Ytcplbmlebogffaa
open Go GoV
set_option maxHeartbeats 2000000

theorem pick_pc (l places : List Int) (hn : places.length ≤ 100000) (hp : ∀ k ∈ places, 0 ≤ k ∧ k < l.length) : PC Try.prog 48 [IL l, IL places] (IL (pickL l places)) :=
  pc_of (VC.mono (.fn 48) _ _ _ _ (fun v fr ⟨h1, h2⟩ => by subst h1; subst h2; exact fz_seq rfl (by simp [pickL])) (pick_vc l places hn hp))
theorem refvalues_pc (cards : List Int) (i : Int) (hn : cards.length ≤ 100000) (hc : ∀ c ∈ cards, 1 ≤ c) (hi : 0 ≤ i ∧ i ≤ 9223372036854775807) : PC Try.prog 21 [IL cards, I i] (IL (digs cards i).1) :=
  pc_of (VC.mono (.fn 21) _ _ _ _ (fun v fr ⟨h1, h2⟩ => by subst h1; subst h2; exact fz_seq rfl (digs_length _ _)) (refvalues_vc cards i hn hc hi))
theorem fz_ap (P : List Int) : Fz (apH P) (apA P) (IL P) := by
  cases P with
  | nil => exact trivial
  | cons a l => exact fz_seq (ex := false) rfl rfl
theorem at_pc (l places : List Int) (hn : places.length ≤ 100000) (hp : ∀ k ∈ places, 0 ≤ k ∧ k < l.length) : PC Try.prog 28 [IL l, IL places] (IL (pickL l places)) :=
  pc_of (VC.mono (.fn 28) _ _ _ _ (fun v fr ⟨h1, h2⟩ => by subst h1; subst h2; exact fz_ap _) (at_vc l places hn hp))
theorem cards_pc (c : List Int) (w : Int) (o : List Int) (hc : ∀ x ∈ c, 0 ≤ x ∧ x ≤ 255) : PC Try.prog 12 [DA c w o] (IL (cardsL c)) :=
  pc_of (VC.mono (.fn 12) _ _ _ _ (fun v fr ⟨h1, h2⟩ => by
    subst h1; subst h2
    cases cardsL c with
    | nil => exact trivial
    | cons a l => exact fz_seq (ex := false) rfl rfl) (cards_vc c w o hc))

def okC (cards : List Int) : Prop := cards.length ≤ 12 ∧ (∀ c ∈ cards, 1 ≤ c ∧ c ≤ 8) ∧ ∃ n, sizeL cards 1 = some n ∧ 1 ≤ n ∧ n ≤ 4096
theorem sizeL_ok : ∀ (cs : List Int) (s n : Int), (1 ≤ s ∧ s ≤ 4096) → sizeL cs s = some n → (∀ c ∈ cs, 1 ≤ c ∧ c ≤ 8) ∧ 1 ≤ n ∧ n ≤ 4096
  | [], s, n, hs, h => by cases h; exact ⟨by simp, hs⟩
  | c :: r, s, n, hs, h => by
    simp only [sizeL] at h
    split at h
    case isFalse => cases h
    rename_i hc
    have h1 : 1 * 1 ≤ s * c := Int.mul_le_mul (by omega) (by omega) (by omega) (by omega)
    obtain ⟨k1, k2⟩ := sizeL_ok r (s * c) n (by omega) h
    refine ⟨fun x hx => ?_, k2⟩
    rcases List.mem_cons.1 hx with rfl | hx
    · exact hc.1
    · exact k1 x hx
theorem okC_of {cards : List Int} {n : Int} (h : sizeS cards = some n) : okC cards ∧ sizeL cards 1 = some n ∧ 1 ≤ n ∧ n ≤ 4096 := by
  unfold sizeS at h
  split at h
  · cases h
  · obtain ⟨k1, k2⟩ := sizeL_ok cards 1 n (by omega) h
    exact ⟨⟨by omega, k1, n, h, k2⟩, h, k2⟩

def valuesS (cards : List Int) (j : Int) : AV := match sizeS cards with
  | none => .tup [IL [], I 20]
  | some n => match decide (0 ≤ j ∧ j < n) with | true => .tup [IL (digs cards j).1, I 0] | false => .tup [IL [], I 2]

theorem values_pc (cards : List Int) (j : Int) : PC Try.prog 18 [IL cards, I j] (valuesS cards j) := by
  have hz := size_vc cards
  unfold valuesS
  cases hs : sizeS cards with
  | none =>
    rw [hs] at hz
    refine pc_fn hmix h18 rfl ?_
    simp -implicitDefEqProofs only [c18, push_cast, Nat.reduceBEq, Nat.reduceLT, Nat.reduceLeDiff, Nat.reduceAdd, Nat.reduceSub, Nat.reduceMul, Nat.reduceEqDiff, reduceCtorEq, ↓reduceIte, Int.reduceEq, Int.reduceLT, Int.reduceLE, Int.reduceNe, Int.reduceAdd, Int.reduceSub, Int.reduceMul, Int.reduceToNat, Nat.reduceShiftRight, Nat.reduceAnd, Nat.reduceBNe]
    refine callF hz ⟨rfl, trivial⟩ rfl rfl ?_
    simp -implicitDefEqProofs only [errS, push_cast, Nat.reduceBEq, Nat.reduceLT, Nat.reduceLeDiff, Nat.reduceAdd, Nat.reduceSub, Nat.reduceMul, Nat.reduceEqDiff, reduceCtorEq, ↓reduceIte, Int.reduceEq, Int.reduceLT, Int.reduceLE, Int.reduceNe, Int.reduceAdd, Int.reduceSub, Int.reduceMul, Int.reduceToNat, Nat.reduceShiftRight, Nat.reduceAnd, Nat.reduceBNe]
    exact finR 0 rfl ⟨trivial, rfl, trivial⟩
  | some n =>
    rw [hs] at hz
    obtain ⟨⟨hl, hc, _⟩, hn, h1, h2⟩ := okC_of hs
    have hw := within_vc [j] [n] (by simp)
    refine pc_fn hmix h18 rfl ?_
    simp -implicitDefEqProofs only [c18, push_cast, Nat.reduceBEq, Nat.reduceLT, Nat.reduceLeDiff, Nat.reduceAdd, Nat.reduceSub, Nat.reduceMul, Nat.reduceEqDiff, reduceCtorEq, ↓reduceIte, Int.reduceEq, Int.reduceLT, Int.reduceLE, Int.reduceNe, Int.reduceAdd, Int.reduceSub, Int.reduceMul, Int.reduceToNat, Nat.reduceShiftRight, Nat.reduceAnd, Nat.reduceBNe]
    refine callF hz ⟨rfl, trivial⟩ rfl rfl ?_
    simp -implicitDefEqProofs only [errS, push_cast, Nat.reduceBEq, Nat.reduceLT, Nat.reduceLeDiff, Nat.reduceAdd, Nat.reduceSub, Nat.reduceMul, Nat.reduceEqDiff, reduceCtorEq, ↓reduceIte, Int.reduceEq, Int.reduceLT, Int.reduceLE, Int.reduceNe, Int.reduceAdd, Int.reduceSub, Int.reduceMul, Int.reduceToNat, Nat.reduceShiftRight, Nat.reduceAnd, Nat.reduceBNe]
    refine callB hw ⟨rd_seq rfl rfl, rd_seq rfl rfl, trivial⟩ rfl rfl ?_
    have e : withinL [j] [n] = decide (0 ≤ j ∧ j < n) := by simp [withinL]
    rw [e]
    cases hd : decide (0 ≤ j ∧ j < n) with
    | false =>
      simp -implicitDefEqProofs only [push_cast, Nat.reduceBEq, Nat.reduceLT, Nat.reduceLeDiff, Nat.reduceAdd, Nat.reduceSub, Nat.reduceMul, Nat.reduceEqDiff, reduceCtorEq, ↓reduceIte, Int.reduceEq, Int.reduceLT, Int.reduceLE, Int.reduceNe, Int.reduceAdd, Int.reduceSub, Int.reduceMul, Int.reduceToNat, Nat.reduceShiftRight, Nat.reduceAnd, Nat.reduceBNe]
      exact finR 0 rfl ⟨trivial, rfl, trivial⟩
    | true =>
      simp -implicitDefEqProofs only [push_cast, Nat.reduceBEq, Nat.reduceLT, Nat.reduceLeDiff, Nat.reduceAdd, Nat.reduceSub, Nat.reduceMul, Nat.reduceEqDiff, reduceCtorEq, ↓reduceIte, Int.reduceEq, Int.reduceLT, Int.reduceLE, Int.reduceNe, Int.reduceAdd, Int.reduceSub, Int.reduceMul, Int.reduceToNat, Nat.reduceShiftRight, Nat.reduceAnd, Nat.reduceBNe]
      simp only [decide_eq_true_eq] at hd
      refine callF (comb_pc cards j (by omega) (fun c h => (hc c h).1) (by omega)) ⟨rfl, rfl, trivial⟩ rfl rfl ?_
      simp -implicitDefEqProofs only [push_cast, Nat.reduceBEq, Nat.reduceLT, Nat.reduceLeDiff, Nat.reduceAdd, Nat.reduceSub, Nat.reduceMul, Nat.reduceEqDiff, reduceCtorEq, ↓reduceIte, Int.reduceEq, Int.reduceLT, Int.reduceLE, Int.reduceNe, Int.reduceAdd, Int.reduceSub, Int.reduceMul, Int.reduceToNat, Nat.reduceShiftRight, Nat.reduceAnd, Nat.reduceBNe]
      exact finC rfl rfl

theorem withinL_pick (cards vals places : List Int) (hl : vals.length = cards.length) (hp : ∀ k ∈ places, 0 ≤ k ∧ k < cards.length) (hw : withinL vals cards = true) : withinL (pickL vals places) (pickL cards places) = true := by
  have key : ∀ (vals cards : List Int), vals.length = cards.length → withinL vals cards = true → ∀ (k : Nat), k < cards.length → 0 ≤ vals.getD k 0 ∧ vals.getD k 0 < cards.getD k 0 := by
    intro vals
    induction vals with
    | nil => intro cards h _ k hk; cases cards with | nil => simp at hk | cons c r => simp at h
    | cons v vs ih =>
      intro cards h hw k hk
      cases cards with
      | nil => simp at h
      | cons c r =>
        simp only [withinL, Bool.and_eq_true, decide_eq_true_eq] at hw
        cases k with
        | zero => simpa using hw.1
        | succ k => simpa using ih r (by simpa using h) hw.2 k (by simpa using hk)
  unfold pickL
  induction places with
  | nil => rfl
  | cons p r ih =>
    have hp0 := hp p (by simp)
    simp only [List.map_cons, withinL, Bool.and_eq_true, decide_eq_true_eq]
    exact ⟨key vals cards hl hw p.toNat (by omega), ih (fun k hk => hp k (by simp [hk]))⟩

theorem digs_within (i : Int) (hi : 0 ≤ i) : ∀ (cs : List Int), (∀ c ∈ cs, 1 ≤ c) → withinL (digs cs i).1 cs = true
  | [], _ => rfl
  | c :: r, h => by
    have h1 := h c (by simp)
    have h2 := digs_left hi r (fun x hx => h x (by simp [hx]))
    simp only [digs, withinL, Bool.and_eq_true, decide_eq_true_eq]
    refine ⟨⟨Int.tmod_nonneg _ h2.1, Int.tmod_lt_of_pos _ (by omega)⟩, digs_within i hi r (fun x hx => h x (by simp [hx]))⟩

end Go.Proofs.Ytcplbmlebogffaa

namespace Go.Proofs.Ytcplbmlebogffaa
open Go GoV
set_option maxHeartbeats 2000000

/-! ### products -/
def prodL : List Int → Int
  | [] => 1
  | c :: r => c * prodL r
theorem prodL_pos : ∀ (l : List Int), (∀ c ∈ l, 1 ≤ c) → 1 ≤ prodL l
  | [], _ => by simp [prodL]
  | c :: r, h => by
    have h1 := prodL_pos r (fun x hx => h x (by simp [hx]))
    have h2 := h c (by simp)
    have := Int.mul_le_mul h2 h1 (by omega) (by omega)
    simp only [prodL]; omega
theorem sizeL_mk : ∀ (l : List Int) (s : Int), (∀ c ∈ l, 1 ≤ c ∧ c ≤ 8) → 1 ≤ s → s * prodL l ≤ 4096 → sizeL l s = some (s * prodL l)
  | [], s, _, _, _ => by simp [sizeL, prodL]
  | c :: r, s, h, hs, hp => by
    have hc := h c (by simp)
    have h1 := prodL_pos r (fun x hx => (h x (by simp [hx])).1)
    have h2 : 1 * 1 ≤ s * c := Int.mul_le_mul (by omega) (by omega) (by omega) (by omega)
    have h3 : s * c * 1 ≤ s * c * prodL r := Int.mul_le_mul_of_nonneg_left h1 (by omega)
    simp only [prodL] at hp ⊢
    rw [← Int.mul_assoc] at hp ⊢
    simp only [sizeL]
    rw [if_pos ⟨hc, by omega⟩]
    exact sizeL_mk r (s * c) (fun x hx => h x (by simp [hx])) (by omega) hp
theorem sizeL_prod : ∀ (l : List Int) (s n : Int), sizeL l s = some n → n = s * prodL l
  | [], s, n, h => by cases h; simp [prodL]
  | c :: r, s, n, h => by
    obtain ⟨_, _, h3⟩ := sizeL_pos h
    rw [sizeL_prod r _ n h3, prodL, Int.mul_assoc]

theorem prodL_set : ∀ (l : List Int) (k : Nat), k < l.length → prodL l = l.getD k 0 * prodL (l.set k 1)
  | [], k, h => by simp at h
  | c :: r, 0, _ => by simp [prodL]
  | c :: r, k + 1, h => by
    have := prodL_set r k (by simpa using h)
    simp only [prodL, List.set_cons_succ, List.getD_cons_succ]
    rw [this]; exact Int.mul_left_comm _ _ _

theorem pickL_set (l : List Int) (k : Nat) (v : Int) : ∀ (ps : List Int), (∀ p ∈ ps, 0 ≤ p ∧ p.toNat ≠ k) → pickL (l.set k v) ps = pickL l ps
  | [], _ => rfl
  | p :: r, h => by
    have h1 := h p (by simp)
    have ih := pickL_set l k v r (fun q hq => h q (by simp [hq]))
    simp only [pickL, List.map_cons] at ih ⊢
    rw [ih]
    congr 1
    simp only [List.getD_eq_getElem?_getD]
    rw [List.getElem?_set_ne (fun e => h1.2 e.symm)]

theorem prodL_pick : ∀ (ps l : List Int), (∀ c ∈ l, 1 ≤ c) → (∀ p ∈ ps, 0 ≤ p ∧ p < l.length) → ps.Nodup → prodL (pickL l ps) ≤ prodL l
  | [], l, h, _, _ => prodL_pos l h
  | p :: r, l, h, hp, hn => by
    have h1 := hp p (by simp)
    have hn' := List.nodup_cons.1 hn
    have e := pickL_set l p.toNat 1 r (fun q hq => ⟨(hp q (by simp [hq])).1, fun e => hn'.1 (by
      have := (hp q (by simp [hq])).1
      have : q = p := by omega
      rw [← this]; exact hq)⟩)
    have hlt : p.toNat < l.length := by omega
    have ih := prodL_pick r (l.set p.toNat 1) (by
      intro c hc
      rcases List.mem_or_eq_of_mem_set hc with hc | rfl
      · exact h c hc
      · omega) (by simpa using fun q hq => hp q (by simp [hq])) hn'.2
    rw [e] at ih
    have hm : 1 ≤ l.getD p.toNat 0 := by
      have : l.getD p.toNat 0 = l[p.toNat] := by simp [hlt]
      rw [this]; exact h _ (List.getElem_mem hlt)
    rw [prodL_set l p.toNat hlt]
    show l.getD p.toNat 0 * prodL (pickL l r) ≤ _
    exact Int.mul_le_mul_of_nonneg_left ih (by omega)

theorem distinct_spec (n : Int) (inc : Bool) (hn : n ≤ 12) : ∀ (l : List Int) (seen : List Bool) (last : Int), seen.length = 12 → distinctL n inc seen last l = true → (∀ k ∈ l, (0 ≤ k ∧ k < n) ∧ seen.getD k.toNat false = false) ∧ l.Nodup
  | [], _, _, _, _ => by simp
  | k :: r, seen, last, hs, h => by
    simp only [distinctL] at h
    split at h
    · cases h
    · rename_i hc
      have hk : 0 ≤ k ∧ k < n := by omega
      have hsk : seen.getD k.toNat false = false := by
        cases hb : seen.getD k.toNat false with
        | false => rfl
        | true => exact absurd (.inl (.inr hb)) hc
      obtain ⟨k1, k2⟩ := distinct_spec n inc hn r (seen.set k.toNat true) k (by simpa using hs) h
      have hlt : k.toNat < seen.length := by omega
      have hself : (seen.set k.toNat true).getD k.toNat false = true := by simp [hlt]
      have hnot : k ∉ r := fun hr => by have := (k1 k hr).2; rw [hself] at this; cases this
      refine ⟨fun q hq => ?_, List.nodup_cons.2 ⟨hnot, k2⟩⟩
      rcases List.mem_cons.1 hq with rfl | hq
      · exact ⟨hk, hsk⟩
      · have hq1 := k1 q hq
        refine ⟨hq1.1, ?_⟩
        have hne : k.toNat ≠ q.toNat := fun e => hnot (by
          have : q = k := by omega
          rw [← this]; exact hq)
        have := hq1.2
        simp only [List.getD_eq_getElem?_getD] at this ⊢
        rwa [List.getElem?_set_ne hne] at this

theorem pick_ok {cards places : List Int} {n : Int} {inc : Bool} (hs : sizeS cards = some n) (hd : distinctL cards.length inc F12 (-1) places = true) :
    (∀ k ∈ places, 0 ≤ k ∧ k < cards.length) ∧ places.Nodup ∧ sizeL (pickL cards places) 1 = some (prodL (pickL cards places)) ∧ 1 ≤ prodL (pickL cards places) ∧ prodL (pickL cards places) ≤ 4096 := by
  obtain ⟨⟨hl, hc, _⟩, hn, h1, h2⟩ := okC_of hs
  obtain ⟨k1, k2⟩ := distinct_spec cards.length inc (by omega) places F12 (-1) rfl hd
  have hp : ∀ k ∈ places, 0 ≤ k ∧ k < cards.length := fun k hk => (k1 k hk).1
  have hpc : ∀ c ∈ pickL cards places, 1 ≤ c ∧ c ≤ 8 := by
    intro c hcm
    obtain ⟨k, hk, rfl⟩ := List.mem_map.1 hcm
    have := hp k hk
    have hlt : k.toNat < cards.length := by omega
    have e : cards.getD k.toNat 0 = cards[k.toNat] := by simp [hlt]
    rw [e]; exact hc _ (List.getElem_mem hlt)
  have hle := prodL_pick places cards (fun c h => (hc c h).1) hp k2
  have he := sizeL_prod cards 1 n hn
  have hpos := prodL_pos (pickL cards places) (fun c h => (hpc c h).1)
  have := sizeL_mk (pickL cards places) 1 hpc (by omega) (by omega)
  rw [Int.one_mul] at this
  exact ⟨hp, k2, this, hpos, by omega⟩

theorem numL_idx : ∀ (cs vs : List Int) (i : Int), cs.length = vs.length → numL i cs vs = i * (idxR cs vs).2 + (idxR cs vs).1
  | [], [], i, _ => by simp [numL, idxR]
  | c :: cs, v :: vs, i, h => by
    simp only [numL, idxR]
    rw [numL_idx cs vs (i * c + v) (by simpa using h), Int.add_mul, Int.mul_assoc, Int.mul_comm c, Int.add_assoc, Int.add_comm (v * _)]
  | [], _ :: _, _, h => by simp at h
  | _ :: _, [], _, h => by simp at h

/-- the number of the picked part -/
def partN (cards places : List Int) (i : Int) : Int := (idxR (pickL cards places) (pickL (digs cards i).1 places)).1

def partS (cards places : List Int) (i : Int) : AV := match sizeS cards with
  | none => .tup [I 0, I 20]
  | some n => match distinctL cards.length true F12 (-1) places, decide (0 ≤ i ∧ i < n) with
    | true, true => .tup [I (partN cards places i), I 0]
    | _, _ => .tup [I 0, I 2]

theorem digs_len' (cards : List Int) (i : Int) : ((digs cards i).1.length : Int) = cards.length := by rw [digs_length]

/-- the number of the picked part, by the program's functions -/
theorem numpick {cards places : List Int} {i n : Int} {inc : Bool} (hs : sizeS cards = some n) (hd : distinctL cards.length inc F12 (-1) places = true) (hi : 0 ≤ i) (hpl : places.length ≤ 100000) :
    PC Try.prog 48 [IL cards, IL places] (IL (pickL cards places)) ∧ PC Try.prog 48 [IL (digs cards i).1, IL places] (IL (pickL (digs cards i).1 places)) ∧
    PC Try.prog 46 [IL (pickL cards places), IL (pickL (digs cards i).1 places)] (I (partN cards places i)) := by
  obtain ⟨⟨hl, hc, _⟩, hn, h1, h2⟩ := okC_of hs
  obtain ⟨hp, hnd, hsz, hm1, hm2⟩ := pick_ok hs hd
  have hw := withinL_pick cards (digs cards i).1 places (digs_length _ _) hp (digs_within i hi cards (fun c h => (hc c h).1))
  refine ⟨pick_pc cards places hpl hp, pick_pc _ places hpl (by rw [digs_length]; exact hp), ?_⟩
  have hnum := number_vc (pickL cards places) (pickL (digs cards i).1 places) (by simp [pickL]; omega) (numOK_of _ _ 0 1 (by omega) (by omega) hsz hw)
  have e : numL 0 (pickL cards places) (pickL (digs cards i).1 places) = partN cards places i := by
    rw [numL_idx _ _ 0 (by simp [pickL]), Int.zero_mul, Int.zero_add]; rfl
  rw [e] at hnum
  exact hnum

theorem part_pc (cards places : List Int) (i : Int) (hpl : places.length ≤ 100000) : PC Try.prog 29 [IL cards, IL places, I i] (partS cards places i) := by
  have hz := size_vc cards
  unfold partS
  cases hs : sizeS cards with
  | none =>
    rw [hs] at hz
    refine pc_fn hmix h29 rfl ?_
    simp -implicitDefEqProofs only [c29, push_cast, Nat.reduceBEq, Nat.reduceLT, Nat.reduceLeDiff, Nat.reduceAdd, Nat.reduceSub, Nat.reduceMul, Nat.reduceEqDiff, reduceCtorEq, ↓reduceIte, Int.reduceEq, Int.reduceLT, Int.reduceLE, Int.reduceNe, Int.reduceAdd, Int.reduceSub, Int.reduceMul, Int.reduceToNat, Nat.reduceShiftRight, Nat.reduceAnd, Nat.reduceBNe]
    refine callF hz ⟨rfl, trivial⟩ rfl rfl ?_
    simp -implicitDefEqProofs only [errS, push_cast, Nat.reduceBEq, Nat.reduceLT, Nat.reduceLeDiff, Nat.reduceAdd, Nat.reduceSub, Nat.reduceMul, Nat.reduceEqDiff, reduceCtorEq, ↓reduceIte, Int.reduceEq, Int.reduceLT, Int.reduceLE, Int.reduceNe, Int.reduceAdd, Int.reduceSub, Int.reduceMul, Int.reduceToNat, Nat.reduceShiftRight, Nat.reduceAnd, Nat.reduceBNe]
    exact finC rfl rfl
  | some n =>
    rw [hs] at hz
    obtain ⟨⟨hl, hc, _⟩, hn, h1, h2⟩ := okC_of hs
    have hdv := distinct_vc places cards.length true hpl (by omega)
    have hw := within_vc [i] [n] (by simp)
    have e : withinL [i] [n] = decide (0 ≤ i ∧ i < n) := by simp [withinL]
    cases hd : distinctL cards.length true F12 (-1) places with
    | false =>
      rw [hd] at hdv
      refine pc_fn hmix h29 rfl ?_
      simp -implicitDefEqProofs only [c29, push_cast, Nat.reduceBEq, Nat.reduceLT, Nat.reduceLeDiff, Nat.reduceAdd, Nat.reduceSub, Nat.reduceMul, Nat.reduceEqDiff, reduceCtorEq, ↓reduceIte, Int.reduceEq, Int.reduceLT, Int.reduceLE, Int.reduceNe, Int.reduceAdd, Int.reduceSub, Int.reduceMul, Int.reduceToNat, Nat.reduceShiftRight, Nat.reduceAnd, Nat.reduceBNe]
      refine callF hz ⟨rfl, trivial⟩ rfl rfl ?_
      simp -implicitDefEqProofs only [errS, push_cast, Nat.reduceBEq, Nat.reduceLT, Nat.reduceLeDiff, Nat.reduceAdd, Nat.reduceSub, Nat.reduceMul, Nat.reduceEqDiff, reduceCtorEq, ↓reduceIte, Int.reduceEq, Int.reduceLT, Int.reduceLE, Int.reduceNe, Int.reduceAdd, Int.reduceSub, Int.reduceMul, Int.reduceToNat, Nat.reduceShiftRight, Nat.reduceAnd, Nat.reduceBNe]
      refine callF hdv ⟨rfl, rfl, rfl, trivial⟩ rfl rfl ?_
      simp -implicitDefEqProofs only [push_cast, Nat.reduceBEq, Nat.reduceLT, Nat.reduceLeDiff, Nat.reduceAdd, Nat.reduceSub, Nat.reduceMul, Nat.reduceEqDiff, reduceCtorEq, ↓reduceIte, Int.reduceEq, Int.reduceLT, Int.reduceLE, Int.reduceNe, Int.reduceAdd, Int.reduceSub, Int.reduceMul, Int.reduceToNat, Nat.reduceShiftRight, Nat.reduceAnd, Nat.reduceBNe]
      exact finC rfl rfl
    | true =>
      rw [hd] at hdv
      rw [e] at hw
      cases hi : decide (0 ≤ i ∧ i < n) with
      | false =>
        rw [hi] at hw
        simp only [hi]
        refine pc_fn hmix h29 rfl ?_
        simp -implicitDefEqProofs only [c29, push_cast, Nat.reduceBEq, Nat.reduceLT, Nat.reduceLeDiff, Nat.reduceAdd, Nat.reduceSub, Nat.reduceMul, Nat.reduceEqDiff, reduceCtorEq, ↓reduceIte, Int.reduceEq, Int.reduceLT, Int.reduceLE, Int.reduceNe, Int.reduceAdd, Int.reduceSub, Int.reduceMul, Int.reduceToNat, Nat.reduceShiftRight, Nat.reduceAnd, Nat.reduceBNe]
        refine callF hz ⟨rfl, trivial⟩ rfl rfl ?_
        simp -implicitDefEqProofs only [errS, push_cast, Nat.reduceBEq, Nat.reduceLT, Nat.reduceLeDiff, Nat.reduceAdd, Nat.reduceSub, Nat.reduceMul, Nat.reduceEqDiff, reduceCtorEq, ↓reduceIte, Int.reduceEq, Int.reduceLT, Int.reduceLE, Int.reduceNe, Int.reduceAdd, Int.reduceSub, Int.reduceMul, Int.reduceToNat, Nat.reduceShiftRight, Nat.reduceAnd, Nat.reduceBNe]
        refine callF hdv ⟨rfl, rfl, rfl, trivial⟩ rfl rfl ?_
        simp -implicitDefEqProofs only [push_cast, Nat.reduceBEq, Nat.reduceLT, Nat.reduceLeDiff, Nat.reduceAdd, Nat.reduceSub, Nat.reduceMul, Nat.reduceEqDiff, reduceCtorEq, ↓reduceIte, Int.reduceEq, Int.reduceLT, Int.reduceLE, Int.reduceNe, Int.reduceAdd, Int.reduceSub, Int.reduceMul, Int.reduceToNat, Nat.reduceShiftRight, Nat.reduceAnd, Nat.reduceBNe]
        refine callB hw ⟨rd_seq rfl rfl, rd_seq rfl rfl, trivial⟩ rfl rfl ?_
        simp -implicitDefEqProofs only [push_cast, Nat.reduceBEq, Nat.reduceLT, Nat.reduceLeDiff, Nat.reduceAdd, Nat.reduceSub, Nat.reduceMul, Nat.reduceEqDiff, reduceCtorEq, ↓reduceIte, Int.reduceEq, Int.reduceLT, Int.reduceLE, Int.reduceNe, Int.reduceAdd, Int.reduceSub, Int.reduceMul, Int.reduceToNat, Nat.reduceShiftRight, Nat.reduceAnd, Nat.reduceBNe]
        exact finC rfl rfl
      | true =>
        rw [hi] at hw
        simp only [hi]
        simp only [decide_eq_true_eq] at hi
        obtain ⟨p1, p2, p3⟩ := numpick hs hd hi.1 hpl
        refine pc_fn hmix h29 rfl ?_
        simp -implicitDefEqProofs only [c29, push_cast, Nat.reduceBEq, Nat.reduceLT, Nat.reduceLeDiff, Nat.reduceAdd, Nat.reduceSub, Nat.reduceMul, Nat.reduceEqDiff, reduceCtorEq, ↓reduceIte, Int.reduceEq, Int.reduceLT, Int.reduceLE, Int.reduceNe, Int.reduceAdd, Int.reduceSub, Int.reduceMul, Int.reduceToNat, Nat.reduceShiftRight, Nat.reduceAnd, Nat.reduceBNe]
        refine callF hz ⟨rfl, trivial⟩ rfl rfl ?_
        simp -implicitDefEqProofs only [errS, push_cast, Nat.reduceBEq, Nat.reduceLT, Nat.reduceLeDiff, Nat.reduceAdd, Nat.reduceSub, Nat.reduceMul, Nat.reduceEqDiff, reduceCtorEq, ↓reduceIte, Int.reduceEq, Int.reduceLT, Int.reduceLE, Int.reduceNe, Int.reduceAdd, Int.reduceSub, Int.reduceMul, Int.reduceToNat, Nat.reduceShiftRight, Nat.reduceAnd, Nat.reduceBNe]
        refine callF hdv ⟨rfl, rfl, rfl, trivial⟩ rfl rfl ?_
        simp -implicitDefEqProofs only [push_cast, Nat.reduceBEq, Nat.reduceLT, Nat.reduceLeDiff, Nat.reduceAdd, Nat.reduceSub, Nat.reduceMul, Nat.reduceEqDiff, reduceCtorEq, ↓reduceIte, Int.reduceEq, Int.reduceLT, Int.reduceLE, Int.reduceNe, Int.reduceAdd, Int.reduceSub, Int.reduceMul, Int.reduceToNat, Nat.reduceShiftRight, Nat.reduceAnd, Nat.reduceBNe]
        refine callB hw ⟨rd_seq rfl rfl, rd_seq rfl rfl, trivial⟩ rfl rfl ?_
        simp -implicitDefEqProofs only [push_cast, Nat.reduceBEq, Nat.reduceLT, Nat.reduceLeDiff, Nat.reduceAdd, Nat.reduceSub, Nat.reduceMul, Nat.reduceEqDiff, reduceCtorEq, ↓reduceIte, Int.reduceEq, Int.reduceLT, Int.reduceLE, Int.reduceNe, Int.reduceAdd, Int.reduceSub, Int.reduceMul, Int.reduceToNat, Nat.reduceShiftRight, Nat.reduceAnd, Nat.reduceBNe]
        refine callF p1 ⟨rfl, rfl, trivial⟩ rfl rfl ?_
        simp -implicitDefEqProofs only [push_cast, Nat.reduceBEq, Nat.reduceLT, Nat.reduceLeDiff, Nat.reduceAdd, Nat.reduceSub, Nat.reduceMul, Nat.reduceEqDiff, reduceCtorEq, ↓reduceIte, Int.reduceEq, Int.reduceLT, Int.reduceLE, Int.reduceNe, Int.reduceAdd, Int.reduceSub, Int.reduceMul, Int.reduceToNat, Nat.reduceShiftRight, Nat.reduceAnd, Nat.reduceBNe]
        refine callF (comb_pc cards i (by omega) (fun c h => (hc c h).1) (by omega)) ⟨rfl, rfl, trivial⟩ rfl rfl ?_
        simp -implicitDefEqProofs only [push_cast, Nat.reduceBEq, Nat.reduceLT, Nat.reduceLeDiff, Nat.reduceAdd, Nat.reduceSub, Nat.reduceMul, Nat.reduceEqDiff, reduceCtorEq, ↓reduceIte, Int.reduceEq, Int.reduceLT, Int.reduceLE, Int.reduceNe, Int.reduceAdd, Int.reduceSub, Int.reduceMul, Int.reduceToNat, Nat.reduceShiftRight, Nat.reduceAnd, Nat.reduceBNe]
        refine callF p2 ⟨rfl, rfl, trivial⟩ rfl rfl ?_
        simp -implicitDefEqProofs only [push_cast, Nat.reduceBEq, Nat.reduceLT, Nat.reduceLeDiff, Nat.reduceAdd, Nat.reduceSub, Nat.reduceMul, Nat.reduceEqDiff, reduceCtorEq, ↓reduceIte, Int.reduceEq, Int.reduceLT, Int.reduceLE, Int.reduceNe, Int.reduceAdd, Int.reduceSub, Int.reduceMul, Int.reduceToNat, Nat.reduceShiftRight, Nat.reduceAnd, Nat.reduceBNe]
        refine callF p3 ⟨rfl, rfl, trivial⟩ rfl rfl ?_
        simp -implicitDefEqProofs only [push_cast, Nat.reduceBEq, Nat.reduceLT, Nat.reduceLeDiff, Nat.reduceAdd, Nat.reduceSub, Nat.reduceMul, Nat.reduceEqDiff, reduceCtorEq, ↓reduceIte, Int.reduceEq, Int.reduceLT, Int.reduceLE, Int.reduceNe, Int.reduceAdd, Int.reduceSub, Int.reduceMul, Int.reduceToNat, Nat.reduceShiftRight, Nat.reduceAnd, Nat.reduceBNe]
        exact finC rfl rfl

def permS (cards p : List Int) (i : Int) : AV := match sizeS cards with
  | none => .tup [I 0, I 20]
  | some n => match decide (p.length = cards.length), distinctL cards.length false F12 (-1) p, decide (0 ≤ i ∧ i < n) with
    | true, true, true => .tup [I (partN cards p i), I 0]
    | _, _, _ => .tup [I 0, I 2]

theorem permute_pc (cards p : List Int) (i : Int) (hpl : p.length ≤ 100000) : PC Try.prog 34 [IL cards, IL p, I i] (permS cards p i) := by
  have hz := size_vc cards
  unfold permS
  cases hs : sizeS cards with
  | none =>
    rw [hs] at hz
    refine pc_fn hmix h34 rfl ?_
    simp -implicitDefEqProofs only [c34, push_cast, Nat.reduceBEq, Nat.reduceLT, Nat.reduceLeDiff, Nat.reduceAdd, Nat.reduceSub, Nat.reduceMul, Nat.reduceEqDiff, reduceCtorEq, ↓reduceIte, Int.reduceEq, Int.reduceLT, Int.reduceLE, Int.reduceNe, Int.reduceAdd, Int.reduceSub, Int.reduceMul, Int.reduceToNat, Nat.reduceShiftRight, Nat.reduceAnd, Nat.reduceBNe]
    refine callF hz ⟨rfl, trivial⟩ rfl rfl ?_
    simp -implicitDefEqProofs only [errS, push_cast, Nat.reduceBEq, Nat.reduceLT, Nat.reduceLeDiff, Nat.reduceAdd, Nat.reduceSub, Nat.reduceMul, Nat.reduceEqDiff, reduceCtorEq, ↓reduceIte, Int.reduceEq, Int.reduceLT, Int.reduceLE, Int.reduceNe, Int.reduceAdd, Int.reduceSub, Int.reduceMul, Int.reduceToNat, Nat.reduceShiftRight, Nat.reduceAnd, Nat.reduceBNe]
    exact finC rfl rfl
  | some n =>
    rw [hs] at hz
    obtain ⟨⟨hl, hc, _⟩, hn, h1, h2⟩ := okC_of hs
    have hdv := distinct_vc p cards.length false hpl (by omega)
    have hw := within_vc [i] [n] (by simp)
    have e : withinL [i] [n] = decide (0 ≤ i ∧ i < n) := by simp [withinL]
    by_cases hlen : p.length = cards.length
    case neg =>
      have hd0 : decide (p.length = cards.length) = false := decide_eq_false hlen
      simp only [hd0]
      refine pc_fn hmix h34 rfl ?_
      simp -implicitDefEqProofs only [c34, push_cast, Nat.reduceBEq, Nat.reduceLT, Nat.reduceLeDiff, Nat.reduceAdd, Nat.reduceSub, Nat.reduceMul, Nat.reduceEqDiff, reduceCtorEq, ↓reduceIte, Int.reduceEq, Int.reduceLT, Int.reduceLE, Int.reduceNe, Int.reduceAdd, Int.reduceSub, Int.reduceMul, Int.reduceToNat, Nat.reduceShiftRight, Nat.reduceAnd, Nat.reduceBNe]
      refine callF hz ⟨rfl, trivial⟩ rfl rfl ?_
      have hd1 : decide ((p.length : Int) = (cards.length : Int)) = false := decide_eq_false (by omega)
      simp -implicitDefEqProofs only [errS, hd1, push_cast, Nat.reduceBEq, Nat.reduceLT, Nat.reduceLeDiff, Nat.reduceAdd, Nat.reduceSub, Nat.reduceMul, Nat.reduceEqDiff, reduceCtorEq, ↓reduceIte, Int.reduceEq, Int.reduceLT, Int.reduceLE, Int.reduceNe, Int.reduceAdd, Int.reduceSub, Int.reduceMul, Int.reduceToNat, Nat.reduceShiftRight, Nat.reduceAnd, Nat.reduceBNe]
      exact finC rfl rfl
    have hd0 : decide (p.length = cards.length) = true := decide_eq_true hlen
    have hd1 : decide ((p.length : Int) = (cards.length : Int)) = true := decide_eq_true (by omega)
    simp only [hd0]
    cases hd : distinctL cards.length false F12 (-1) p with
    | false =>
      rw [hd] at hdv
      refine pc_fn hmix h34 rfl ?_
      simp -implicitDefEqProofs only [c34, push_cast, Nat.reduceBEq, Nat.reduceLT, Nat.reduceLeDiff, Nat.reduceAdd, Nat.reduceSub, Nat.reduceMul, Nat.reduceEqDiff, reduceCtorEq, ↓reduceIte, Int.reduceEq, Int.reduceLT, Int.reduceLE, Int.reduceNe, Int.reduceAdd, Int.reduceSub, Int.reduceMul, Int.reduceToNat, Nat.reduceShiftRight, Nat.reduceAnd, Nat.reduceBNe]
      refine callF hz ⟨rfl, trivial⟩ rfl rfl ?_
      simp -implicitDefEqProofs only [errS, hd1, push_cast, Nat.reduceBEq, Nat.reduceLT, Nat.reduceLeDiff, Nat.reduceAdd, Nat.reduceSub, Nat.reduceMul, Nat.reduceEqDiff, reduceCtorEq, ↓reduceIte, Int.reduceEq, Int.reduceLT, Int.reduceLE, Int.reduceNe, Int.reduceAdd, Int.reduceSub, Int.reduceMul, Int.reduceToNat, Nat.reduceShiftRight, Nat.reduceAnd, Nat.reduceBNe]
      refine callF hdv ⟨rfl, rfl, rfl, trivial⟩ rfl rfl ?_
      simp -implicitDefEqProofs only [push_cast, Nat.reduceBEq, Nat.reduceLT, Nat.reduceLeDiff, Nat.reduceAdd, Nat.reduceSub, Nat.reduceMul, Nat.reduceEqDiff, reduceCtorEq, ↓reduceIte, Int.reduceEq, Int.reduceLT, Int.reduceLE, Int.reduceNe, Int.reduceAdd, Int.reduceSub, Int.reduceMul, Int.reduceToNat, Nat.reduceShiftRight, Nat.reduceAnd, Nat.reduceBNe]
      exact finC rfl rfl
    | true =>
      rw [hd] at hdv
      rw [e] at hw
      cases hi : decide (0 ≤ i ∧ i < n) with
      | false =>
        rw [hi] at hw
        simp only [hi]
        refine pc_fn hmix h34 rfl ?_
        simp -implicitDefEqProofs only [c34, push_cast, Nat.reduceBEq, Nat.reduceLT, Nat.reduceLeDiff, Nat.reduceAdd, Nat.reduceSub, Nat.reduceMul, Nat.reduceEqDiff, reduceCtorEq, ↓reduceIte, Int.reduceEq, Int.reduceLT, Int.reduceLE, Int.reduceNe, Int.reduceAdd, Int.reduceSub, Int.reduceMul, Int.reduceToNat, Nat.reduceShiftRight, Nat.reduceAnd, Nat.reduceBNe]
        refine callF hz ⟨rfl, trivial⟩ rfl rfl ?_
        simp -implicitDefEqProofs only [errS, hd1, push_cast, Nat.reduceBEq, Nat.reduceLT, Nat.reduceLeDiff, Nat.reduceAdd, Nat.reduceSub, Nat.reduceMul, Nat.reduceEqDiff, reduceCtorEq, ↓reduceIte, Int.reduceEq, Int.reduceLT, Int.reduceLE, Int.reduceNe, Int.reduceAdd, Int.reduceSub, Int.reduceMul, Int.reduceToNat, Nat.reduceShiftRight, Nat.reduceAnd, Nat.reduceBNe]
        refine callF hdv ⟨rfl, rfl, rfl, trivial⟩ rfl rfl ?_
        simp -implicitDefEqProofs only [push_cast, Nat.reduceBEq, Nat.reduceLT, Nat.reduceLeDiff, Nat.reduceAdd, Nat.reduceSub, Nat.reduceMul, Nat.reduceEqDiff, reduceCtorEq, ↓reduceIte, Int.reduceEq, Int.reduceLT, Int.reduceLE, Int.reduceNe, Int.reduceAdd, Int.reduceSub, Int.reduceMul, Int.reduceToNat, Nat.reduceShiftRight, Nat.reduceAnd, Nat.reduceBNe]
        refine callB hw ⟨rd_seq rfl rfl, rd_seq rfl rfl, trivial⟩ rfl rfl ?_
        simp -implicitDefEqProofs only [push_cast, Nat.reduceBEq, Nat.reduceLT, Nat.reduceLeDiff, Nat.reduceAdd, Nat.reduceSub, Nat.reduceMul, Nat.reduceEqDiff, reduceCtorEq, ↓reduceIte, Int.reduceEq, Int.reduceLT, Int.reduceLE, Int.reduceNe, Int.reduceAdd, Int.reduceSub, Int.reduceMul, Int.reduceToNat, Nat.reduceShiftRight, Nat.reduceAnd, Nat.reduceBNe]
        exact finC rfl rfl
      | true =>
        rw [hi] at hw
        simp only [hi]
        simp only [decide_eq_true_eq] at hi
        obtain ⟨p1, p2, p3⟩ := numpick hs hd hi.1 hpl
        refine pc_fn hmix h34 rfl ?_
        simp -implicitDefEqProofs only [c34, push_cast, Nat.reduceBEq, Nat.reduceLT, Nat.reduceLeDiff, Nat.reduceAdd, Nat.reduceSub, Nat.reduceMul, Nat.reduceEqDiff, reduceCtorEq, ↓reduceIte, Int.reduceEq, Int.reduceLT, Int.reduceLE, Int.reduceNe, Int.reduceAdd, Int.reduceSub, Int.reduceMul, Int.reduceToNat, Nat.reduceShiftRight, Nat.reduceAnd, Nat.reduceBNe]
        refine callF hz ⟨rfl, trivial⟩ rfl rfl ?_
        simp -implicitDefEqProofs only [errS, hd1, push_cast, Nat.reduceBEq, Nat.reduceLT, Nat.reduceLeDiff, Nat.reduceAdd, Nat.reduceSub, Nat.reduceMul, Nat.reduceEqDiff, reduceCtorEq, ↓reduceIte, Int.reduceEq, Int.reduceLT, Int.reduceLE, Int.reduceNe, Int.reduceAdd, Int.reduceSub, Int.reduceMul, Int.reduceToNat, Nat.reduceShiftRight, Nat.reduceAnd, Nat.reduceBNe]
        refine callF hdv ⟨rfl, rfl, rfl, trivial⟩ rfl rfl ?_
        simp -implicitDefEqProofs only [push_cast, Nat.reduceBEq, Nat.reduceLT, Nat.reduceLeDiff, Nat.reduceAdd, Nat.reduceSub, Nat.reduceMul, Nat.reduceEqDiff, reduceCtorEq, ↓reduceIte, Int.reduceEq, Int.reduceLT, Int.reduceLE, Int.reduceNe, Int.reduceAdd, Int.reduceSub, Int.reduceMul, Int.reduceToNat, Nat.reduceShiftRight, Nat.reduceAnd, Nat.reduceBNe]
        refine callB hw ⟨rd_seq rfl rfl, rd_seq rfl rfl, trivial⟩ rfl rfl ?_
        simp -implicitDefEqProofs only [push_cast, Nat.reduceBEq, Nat.reduceLT, Nat.reduceLeDiff, Nat.reduceAdd, Nat.reduceSub, Nat.reduceMul, Nat.reduceEqDiff, reduceCtorEq, ↓reduceIte, Int.reduceEq, Int.reduceLT, Int.reduceLE, Int.reduceNe, Int.reduceAdd, Int.reduceSub, Int.reduceMul, Int.reduceToNat, Nat.reduceShiftRight, Nat.reduceAnd, Nat.reduceBNe]
        refine callF p1 ⟨rfl, rfl, trivial⟩ rfl rfl ?_
        simp -implicitDefEqProofs only [push_cast, Nat.reduceBEq, Nat.reduceLT, Nat.reduceLeDiff, Nat.reduceAdd, Nat.reduceSub, Nat.reduceMul, Nat.reduceEqDiff, reduceCtorEq, ↓reduceIte, Int.reduceEq, Int.reduceLT, Int.reduceLE, Int.reduceNe, Int.reduceAdd, Int.reduceSub, Int.reduceMul, Int.reduceToNat, Nat.reduceShiftRight, Nat.reduceAnd, Nat.reduceBNe]
        refine callF (comb_pc cards i (by omega) (fun c h => (hc c h).1) (by omega)) ⟨rfl, rfl, trivial⟩ rfl rfl ?_
        simp -implicitDefEqProofs only [push_cast, Nat.reduceBEq, Nat.reduceLT, Nat.reduceLeDiff, Nat.reduceAdd, Nat.reduceSub, Nat.reduceMul, Nat.reduceEqDiff, reduceCtorEq, ↓reduceIte, Int.reduceEq, Int.reduceLT, Int.reduceLE, Int.reduceNe, Int.reduceAdd, Int.reduceSub, Int.reduceMul, Int.reduceToNat, Nat.reduceShiftRight, Nat.reduceAnd, Nat.reduceBNe]
        refine callF p2 ⟨rfl, rfl, trivial⟩ rfl rfl ?_
        simp -implicitDefEqProofs only [push_cast, Nat.reduceBEq, Nat.reduceLT, Nat.reduceLeDiff, Nat.reduceAdd, Nat.reduceSub, Nat.reduceMul, Nat.reduceEqDiff, reduceCtorEq, ↓reduceIte, Int.reduceEq, Int.reduceLT, Int.reduceLE, Int.reduceNe, Int.reduceAdd, Int.reduceSub, Int.reduceMul, Int.reduceToNat, Nat.reduceShiftRight, Nat.reduceAnd, Nat.reduceBNe]
        refine callF p3 ⟨rfl, rfl, trivial⟩ rfl rfl ?_
        simp -implicitDefEqProofs only [push_cast, Nat.reduceBEq, Nat.reduceLT, Nat.reduceLeDiff, Nat.reduceAdd, Nat.reduceSub, Nat.reduceMul, Nat.reduceEqDiff, reduceCtorEq, ↓reduceIte, Int.reduceEq, Int.reduceLT, Int.reduceLE, Int.reduceNe, Int.reduceAdd, Int.reduceSub, Int.reduceMul, Int.reduceToNat, Nat.reduceShiftRight, Nat.reduceAnd, Nat.reduceBNe]
        exact finC rfl rfl
end Go.Proofs.Ytcplbmlebogffaa

namespace Go.Proofs.Ytcplbmlebogffaa
open Go GoV

set_option maxRecDepth 1000000 in
theorem works_run : calB Try.prog orcNone (evF Try.prog orcNone 300) (.fn 10) [] [] = some (.dat .bool true, []) := by kernel_rfl
theorem works_pc : PC Try.prog 10 [] (B true) := vcalls_run hmix orcNone_ok 300 works_run
end Go.Proofs.Ytcplbmlebogffaa

namespace Go.Proofs.Ytcplbmlebogffaa
open Go GoV
set_option maxHeartbeats 2000000

def placesD (w : Int) : Nat → List Int
  | 0 => []
  | k + 1 => match decide ((((w / 2 ^ k).toNat &&& 1 : Nat) : Int) = 1) with
    | true => placesD w k ++ [(k : Int)]
    | false => placesD w k
theorem placesD_length (w : Int) : ∀ n, (placesD w n).length ≤ n
  | 0 => by simp [placesD]
  | k + 1 => by
    have := placesD_length w k
    unfold placesD
    split <;> simp <;> omega

theorem draftplaces_pc (c : List Int) (w : Int) (o : List Int) (hc : ∀ x ∈ c, 0 ≤ x ∧ x ≤ 255) (hw : 0 ≤ w ∧ w ≤ 65535) : PC Try.prog 26 [DA c w o] (IL (placesD w (cardsL c).length)) := by
  have hcl : (cardsL c).length ≤ 5 := by simp [cardsL]; omega
  refine pc_fn hmix h26 rfl ?_
  simp -implicitDefEqProofs only [c26, push_cast, Nat.reduceBEq, Nat.reduceLT, Nat.reduceLeDiff, Nat.reduceAdd, Nat.reduceSub, Nat.reduceMul, Nat.reduceEqDiff, reduceCtorEq, ↓reduceIte, Int.reduceEq, Int.reduceLT, Int.reduceLE, Int.reduceNe, Int.reduceAdd, Int.reduceSub, Int.reduceMul, Int.reduceToNat, Nat.reduceShiftRight, Nat.reduceAnd, Nat.reduceBNe]
  refine loop_w (α := Nat) (fun k => ⟨[(4, I k), (3, .slc 1 (placesD w k).length 0 (placesD w k).length), (1, .ptr 0 0)], [boxD c w o, .lst (.int .i64) (placesD w k)], []⟩) (fun k => k ≤ (cardsL c).length) (fun k => (cardsL c).length - k) 0
    ((wk_own 3 (.int .i64) rfl).trans (wk_cut [4, 3, 1] 2 rfl ⟨rfl, rfl, rfl⟩ rfl)) (by omega) ?_
  intro k hk
  have hpl := placesD_length w k
  simp -implicitDefEqProofs only [c26L0, boxD, push_cast, Nat.reduceBEq, Nat.reduceLT, Nat.reduceLeDiff, Nat.reduceAdd, Nat.reduceSub, Nat.reduceMul, Nat.reduceEqDiff, reduceCtorEq, ↓reduceIte, Int.reduceEq, Int.reduceLT, Int.reduceLE, Int.reduceNe, Int.reduceAdd, Int.reduceSub, Int.reduceMul, Int.reduceToNat, Nat.reduceShiftRight, Nat.reduceAnd, Nat.reduceBNe]
  refine callF (cards_pc c w o hc) ⟨⟨rfl, ⟨rfl, rfl⟩, ⟨rfl, rfl⟩, ⟨rfl, rfl⟩, rfl⟩, trivial⟩ rfl rfl ?_
  simp -implicitDefEqProofs only [push_cast, Nat.reduceBEq, Nat.reduceLT, Nat.reduceLeDiff, Nat.reduceAdd, Nat.reduceSub, Nat.reduceMul, Nat.reduceEqDiff, reduceCtorEq, ↓reduceIte, Int.reduceEq, Int.reduceLT, Int.reduceLE, Int.reduceNe, Int.reduceAdd, Int.reduceSub, Int.reduceMul, Int.reduceToNat, Nat.reduceShiftRight, Nat.reduceAnd, Nat.reduceBNe]
  refine ⟨fun h => ?_, fun h => ?_⟩
  · have hk2 : k < (cardsL c).length := by omega
    have hx1 : 0 ≤ w / 2 ^ k := Int.ediv_nonneg hw.1 (Int.pow_nonneg (by decide))
    have hx2 : w / 2 ^ k ≤ w := Int.ediv_le_self _ hw.1
    obtain ⟨z, hz⟩ : ∃ z, w / 2 ^ k = z := ⟨_, rfl⟩
    have hP : placesD w (k + 1) = match decide (((z.toNat &&& 1 : Nat) : Int) = 1) with | true => placesD w k ++ [(k : Int)] | false => placesD w k := by
      rw [← hz]; rfl
    rw [hz] at hx1 hx2
    simp only [hz]
    refine ⟨by simp only [inR]; omega, ⟨by omega, by simp only [IntKind.bits]; omega⟩, ⟨⟨hx1, by simp only [inR]; omega⟩, by simp only [inR]; omega⟩, fun hb => ⟨by simp only [two47]; omega, by simp only [inR]; omega, k + 1, by omega, by omega, ?_⟩, fun hb => ⟨by simp only [inR]; omega, k + 1, by omega, by omega, ?_⟩⟩
    · rw [decide_eq_true hb] at hP
      rw [hP]
      exact wk_cut [4, 3, 1] 2 rfl ⟨rfl, rfl, rfl⟩ rfl
    · rw [decide_eq_false hb] at hP
      rw [hP]
      exact wk_cut [4, 3, 1] 2 rfl ⟨rfl, rfl, rfl⟩ rfl
  · have hk2 : k = (cardsL c).length := by omega
    subst hk2
    exact finR 2 rfl (fz_lst rfl rfl)

/-! ### the permutation -/
def permD (o : List Int) : Nat → List Int
  | 0 => []
  | k + 1 => (permD o k).take (if k < o.length then ((o.getD k 0).tmod (k + 1)).toNat else 0) ++ [(k : Int)] ++ (permD o k).drop (if k < o.length then ((o.getD k 0).tmod (k + 1)).toNat else 0)
theorem permD_at (o : List Int) (ho : ∀ x ∈ o, 0 ≤ x ∧ x ≤ 255) (k : Nat) : (if k < o.length then ((o.getD k 0).tmod (k + 1)).toNat else 0) ≤ k ∧ (k < o.length → 0 ≤ o.getD k 0 ∧ o.getD k 0 ≤ 255 ∧ 0 ≤ (o.getD k 0).tmod (k + 1)) := by
  have key : k < o.length → 0 ≤ o.getD k 0 ∧ o.getD k 0 ≤ 255 ∧ 0 ≤ (o.getD k 0).tmod (k + 1) := by
    intro h
    have e : o.getD k 0 = o[k] := by simp [h]
    have := ho _ (List.getElem_mem h)
    rw [← e] at this
    exact ⟨this.1, this.2, Int.tmod_nonneg _ this.1⟩
  refine ⟨?_, key⟩
  split
  · have h := key ‹_›
    have := Int.tmod_lt_of_pos (o.getD k 0) (show (0 : Int) < k + 1 by omega)
    omega
  · omega
theorem permD_length (o : List Int) (ho : ∀ x ∈ o, 0 ≤ x ∧ x ≤ 255) : ∀ n, (permD o n).length = n
  | 0 => rfl
  | k + 1 => by
    have := permD_length o ho k
    have := (permD_at o ho k).1
    simp only [permD, List.length_append, List.length_take, List.length_drop, List.length_cons, List.length_nil]
    omega

theorem draftperm_pc (c : List Int) (w : Int) (o : List Int) (hc : ∀ x ∈ c, 0 ≤ x ∧ x ≤ 255) (ho : o.length ≤ 9223372036854775807 ∧ ∀ x ∈ o, 0 ≤ x ∧ x ≤ 255) : PC Try.prog 33 [DA c w o] (IL (permD o (cardsL c).length)) := by
  have hcl : (cardsL c).length ≤ 5 := by simp [cardsL]; omega
  refine pc_fn hmix h33 rfl ?_
  simp -implicitDefEqProofs only [c33, push_cast, Nat.reduceBEq, Nat.reduceLT, Nat.reduceLeDiff, Nat.reduceAdd, Nat.reduceSub, Nat.reduceMul, Nat.reduceEqDiff, reduceCtorEq, ↓reduceIte, Int.reduceEq, Int.reduceLT, Int.reduceLE, Int.reduceNe, Int.reduceAdd, Int.reduceSub, Int.reduceMul, Int.reduceToNat, Nat.reduceShiftRight, Nat.reduceAnd, Nat.reduceBNe]
  refine loop_w (α := Nat) (fun k => ⟨[(4, I k), (3, IL (permD o k)), (1, .ptr 0 0)], [boxD c w o], []⟩) (fun k => k ≤ (cardsL c).length) (fun k => (cardsL c).length - k) 0
    ((wk_own 3 (.int .i64) rfl).trans ((wk_frz 3 1 0 (τ := .int .i64) (xs := []) rfl (.inr rfl) rfl).trans (wk_cut [4, 3, 1] 1 rfl ⟨rfl, rfl, rfl⟩ rfl))) (by omega) ?_
  intro k hk
  have hpl := permD_length o ho.2 k
  obtain ⟨ha1, ha2⟩ := permD_at o ho.2 k
  simp -implicitDefEqProofs only [c33L0, boxD, push_cast, Nat.reduceBEq, Nat.reduceLT, Nat.reduceLeDiff, Nat.reduceAdd, Nat.reduceSub, Nat.reduceMul, Nat.reduceEqDiff, reduceCtorEq, ↓reduceIte, Int.reduceEq, Int.reduceLT, Int.reduceLE, Int.reduceNe, Int.reduceAdd, Int.reduceSub, Int.reduceMul, Int.reduceToNat, Nat.reduceShiftRight, Nat.reduceAnd, Nat.reduceBNe]
  refine callF (cards_pc c w o hc) ⟨⟨rfl, ⟨rfl, rfl⟩, ⟨rfl, rfl⟩, ⟨rfl, rfl⟩, rfl⟩, trivial⟩ rfl rfl ?_
  simp -implicitDefEqProofs only [push_cast, Nat.reduceBEq, Nat.reduceLT, Nat.reduceLeDiff, Nat.reduceAdd, Nat.reduceSub, Nat.reduceMul, Nat.reduceEqDiff, reduceCtorEq, ↓reduceIte, Int.reduceEq, Int.reduceLT, Int.reduceLE, Int.reduceNe, Int.reduceAdd, Int.reduceSub, Int.reduceMul, Int.reduceToNat, Nat.reduceShiftRight, Nat.reduceAnd, Nat.reduceBNe]
  refine ⟨fun h => ?_, fun h => ?_⟩
  · have hk2 : k < (cardsL c).length := by omega
    refine ⟨fun h1 => ?_, fun h1 => ?_⟩
    · have h2 : k < o.length := by omega
      obtain ⟨b1, b2, b3⟩ := ha2 h2
      rw [if_pos h2] at ha1
      have hP : permD o (k + 1) = (permD o k).take ((o.getD k 0).tmod (k + 1)).toNat ++ [(k : Int)] ++ (permD o k).drop ((o.getD k 0).tmod (k + 1)).toNat := by
        simp only [permD, if_pos h2]
      obtain ⟨a, ha⟩ : ∃ a, (o.getD k 0).tmod (k + 1) = a := ⟨_, rfl⟩
      rw [ha] at ha1 b3 hP
      simp only [ha]
      obtain ⟨x, hx⟩ : ∃ x, o.getD k 0 = x := ⟨_, rfl⟩
      simp only [hx]
      rw [hx] at b1 b2
      refine ⟨by omega, by simp only [inR]; omega, by simp only [inR]; omega, by omega, by omega, by omega, ?_⟩
      have e1 : subL (permD o k) a.toNat ((permD o k).length - a.toNat) = (permD o k).drop a.toNat := by
        unfold subL; exact List.take_of_length_le (by rw [List.length_drop]; exact Nat.le_refl _)
      have e2 : subL (permD o k) 0 a.toNat = (permD o k).take a.toNat := rfl
      obtain ⟨X, hX⟩ : ∃ X, (permD o k).take a.toNat = X := ⟨_, rfl⟩
      obtain ⟨Y, hY⟩ : ∃ Y, (permD o k).drop a.toNat = Y := ⟨_, rfl⟩
      have hXl : X.length = a.toNat := by rw [← hX, List.length_take]; omega
      have hYl : Y.length = k - a.toNat := by rw [← hY, List.length_drop]; omega
      rw [hX, hY] at hP
      rw [hX] at e2
      rw [hY] at e1
      simp only [e1, e2]
      refine ⟨fun he => ?_, fun he => ?_⟩
      · have hX0 : X = [] := List.isEmpty_iff.1 he
        subst hX0
        refine ⟨by decide, b3, ⟨by omega, Nat.le_refl _⟩, by simp only [two47]; omega, by simp only [inR]; omega, k + 1, by omega, by omega, ?_⟩
        rw [hP]
        exact (wk_frz 3 2 (Y.length + 1) (τ := .int .i64) (xs := (k : Int) :: Y) rfl (.inl ⟨_, rfl⟩) rfl).trans (wk_cut [4, 3, 1] 1 rfl ⟨rfl, rfl, rfl⟩ rfl)
      · refine ⟨by simp only [two47]; omega, Nat.le_refl _, by simp only [two47]; omega, b3, ⟨by omega, Nat.le_refl _⟩, Nat.le_refl _, ?_⟩
        simp only [List.length_append, List.length_cons, List.length_nil]
        refine ⟨by simp only [two47]; omega, by simp only [inR]; omega, k + 1, by omega, by omega, ?_⟩
        rw [hP]
        exact (wk_frz 3 1 _ (τ := .int .i64) (xs := X ++ [(k : Int)] ++ Y) rfl (.inl ⟨_, rfl⟩) (by simp; omega)).trans (wk_cut [4, 3, 1] 1 rfl ⟨rfl, rfl, rfl⟩ rfl)
    · have h2 : ¬ k < o.length := by omega
      have hP : permD o (k + 1) = (k : Int) :: permD o k := by
        simp only [permD, if_neg h2]; rfl
      simp only [subL_all]
      refine ⟨Nat.zero_le _, by decide, ⟨Nat.zero_le _, Nat.le_refl _⟩, by simp only [two47]; omega, by simp only [inR]; omega, k + 1, by omega, by omega, ?_⟩
      rw [hP]
      exact (wk_frz 3 2 ((permD o k).length + 1) (τ := .int .i64) (xs := (k : Int) :: permD o k) rfl (.inl ⟨_, rfl⟩) rfl).trans (wk_cut [4, 3, 1] 1 rfl ⟨rfl, rfl, rfl⟩ rfl)
  · have hk2 : k = (cardsL c).length := by omega
    subst hk2
    exact finC rfl rfl
end Go.Proofs.Ytcplbmlebogffaa

namespace Go.Proofs.Ytcplbmlebogffaa
open Go GoV
set_option maxHeartbeats 2000000

theorem count_set_true : ∀ (l : List Bool) (k : Nat), k < l.length → l.getD k false = false → (l.set k true).count false + 1 = l.count false
  | [], k, h, _ => by simp at h
  | b :: r, 0, _, h => by
    simp at h
    subst h
    simp
  | b :: r, k + 1, h, h2 => by
    have := count_set_true r k (by simpa using h) (by simpa using h2)
    simp only [List.set_cons_succ, List.count_cons]
    omega

theorem distinct_len (n : Int) (inc : Bool) (hn : n ≤ 12) : ∀ (l : List Int) (seen : List Bool) (last : Int), seen.length = 12 → distinctL n inc seen last l = true → l.length ≤ seen.count false
  | [], _, _, _, _ => Nat.zero_le _
  | k :: r, seen, last, hs, h => by
    obtain ⟨k1, _⟩ := distinct_spec n inc hn (k :: r) seen last hs h
    have hk := k1 k (by simp)
    simp only [distinctL] at h
    split at h
    · cases h
    · have := distinct_len n inc hn r (seen.set k.toNat true) k (by simpa using hs) h
      have h2 := count_set_true seen k.toNat (by omega) hk.2
      simp only [List.length_cons]
      omega

theorem pick_size {cards places : List Int} {n : Int} {inc : Bool} (hs : sizeS cards = some n) (hd : distinctL cards.length inc F12 (-1) places = true) : places.length ≤ 12 ∧ sizeS (pickL cards places) = some (prodL (pickL cards places)) := by
  obtain ⟨⟨hl, hc, _⟩, hn, h1, h2⟩ := okC_of hs
  obtain ⟨hp, hnd, hsz, hm1, hm2⟩ := pick_ok hs hd
  have hlen := distinct_len cards.length inc (by omega) places F12 (-1) rfl hd
  have h12 : F12.count false = 12 := rfl
  refine ⟨by omega, ?_⟩
  unfold sizeS
  rw [if_neg (by simp [pickL]; omega)]
  exact hsz

def spreadL (cards places : List Int) (j : Int) : Nat → List Int
  | 0 => []
  | k + 1 => match decide (partN cards places k = j) with
    | true => spreadL cards places j k ++ [(k : Int)]
    | false => spreadL cards places j k
theorem spreadL_length (cards places : List Int) (j : Int) : ∀ n, (spreadL cards places j n).length ≤ n
  | 0 => by simp [spreadL]
  | k + 1 => by
    have := spreadL_length cards places j k
    unfold spreadL
    split <;> simp <;> omega

def spreadS (cards places : List Int) (j : Int) : AV := match sizeS cards with
  | none => .tup [IL [], I 20]
  | some n => match distinctL cards.length true F12 (-1) places, decide (0 ≤ j ∧ j < prodL (pickL cards places)) with
    | true, true => .tup [IL (spreadL cards places j n.toNat), I 0]
    | _, _ => .tup [IL [], I 2]

theorem spread_pc (cards places : List Int) (j : Int) (hpl : places.length ≤ 100000) : PC Try.prog 31 [IL cards, IL places, I j] (spreadS cards places j) := by
  have hz := size_vc cards
  unfold spreadS
  cases hs : sizeS cards with
  | none =>
    rw [hs] at hz
    refine pc_fn hmix h31 rfl ?_
    simp -implicitDefEqProofs only [c31, push_cast, Nat.reduceBEq, Nat.reduceLT, Nat.reduceLeDiff, Nat.reduceAdd, Nat.reduceSub, Nat.reduceMul, Nat.reduceEqDiff, reduceCtorEq, ↓reduceIte, Int.reduceEq, Int.reduceLT, Int.reduceLE, Int.reduceNe, Int.reduceAdd, Int.reduceSub, Int.reduceMul, Int.reduceToNat, Nat.reduceShiftRight, Nat.reduceAnd, Nat.reduceBNe]
    refine callF hz ⟨rfl, trivial⟩ rfl rfl ?_
    simp -implicitDefEqProofs only [errS, push_cast, Nat.reduceBEq, Nat.reduceLT, Nat.reduceLeDiff, Nat.reduceAdd, Nat.reduceSub, Nat.reduceMul, Nat.reduceEqDiff, reduceCtorEq, ↓reduceIte, Int.reduceEq, Int.reduceLT, Int.reduceLE, Int.reduceNe, Int.reduceAdd, Int.reduceSub, Int.reduceMul, Int.reduceToNat, Nat.reduceShiftRight, Nat.reduceAnd, Nat.reduceBNe]
    exact finR 0 rfl ⟨trivial, rfl, trivial⟩
  | some n =>
    rw [hs] at hz
    obtain ⟨⟨hl, hc, _⟩, hn, h1, h2⟩ := okC_of hs
    have hdv := distinct_vc places cards.length true hpl (by omega)
    cases hd : distinctL cards.length true F12 (-1) places with
    | false =>
      rw [hd] at hdv
      refine pc_fn hmix h31 rfl ?_
      simp -implicitDefEqProofs only [c31, push_cast, Nat.reduceBEq, Nat.reduceLT, Nat.reduceLeDiff, Nat.reduceAdd, Nat.reduceSub, Nat.reduceMul, Nat.reduceEqDiff, reduceCtorEq, ↓reduceIte, Int.reduceEq, Int.reduceLT, Int.reduceLE, Int.reduceNe, Int.reduceAdd, Int.reduceSub, Int.reduceMul, Int.reduceToNat, Nat.reduceShiftRight, Nat.reduceAnd, Nat.reduceBNe]
      refine callF hz ⟨rfl, trivial⟩ rfl rfl ?_
      simp -implicitDefEqProofs only [errS, push_cast, Nat.reduceBEq, Nat.reduceLT, Nat.reduceLeDiff, Nat.reduceAdd, Nat.reduceSub, Nat.reduceMul, Nat.reduceEqDiff, reduceCtorEq, ↓reduceIte, Int.reduceEq, Int.reduceLT, Int.reduceLE, Int.reduceNe, Int.reduceAdd, Int.reduceSub, Int.reduceMul, Int.reduceToNat, Nat.reduceShiftRight, Nat.reduceAnd, Nat.reduceBNe]
      refine callF hdv ⟨rfl, rfl, rfl, trivial⟩ rfl rfl ?_
      simp -implicitDefEqProofs only [push_cast, Nat.reduceBEq, Nat.reduceLT, Nat.reduceLeDiff, Nat.reduceAdd, Nat.reduceSub, Nat.reduceMul, Nat.reduceEqDiff, reduceCtorEq, ↓reduceIte, Int.reduceEq, Int.reduceLT, Int.reduceLE, Int.reduceNe, Int.reduceAdd, Int.reduceSub, Int.reduceMul, Int.reduceToNat, Nat.reduceShiftRight, Nat.reduceAnd, Nat.reduceBNe]
      exact finR 0 rfl ⟨trivial, rfl, trivial⟩
    | true =>
      rw [hd] at hdv
      obtain ⟨hp, hnd, hsz, hm1, hm2⟩ := pick_ok hs hd
      obtain ⟨hpl2, hz2⟩ := pick_size hs hd
      have hsz2 := size_vc (pickL cards places)
      rw [hz2] at hsz2
      have hw := within_vc [j] [prodL (pickL cards places)] (by simp)
      have e : withinL [j] [prodL (pickL cards places)] = decide (0 ≤ j ∧ j < prodL (pickL cards places)) := by simp [withinL]
      rw [e] at hw
      cases hi : decide (0 ≤ j ∧ j < prodL (pickL cards places)) with
      | false =>
        rw [hi] at hw
        simp only [hi]
        refine pc_fn hmix h31 rfl ?_
        simp -implicitDefEqProofs only [c31, push_cast, Nat.reduceBEq, Nat.reduceLT, Nat.reduceLeDiff, Nat.reduceAdd, Nat.reduceSub, Nat.reduceMul, Nat.reduceEqDiff, reduceCtorEq, ↓reduceIte, Int.reduceEq, Int.reduceLT, Int.reduceLE, Int.reduceNe, Int.reduceAdd, Int.reduceSub, Int.reduceMul, Int.reduceToNat, Nat.reduceShiftRight, Nat.reduceAnd, Nat.reduceBNe]
        refine callF hz ⟨rfl, trivial⟩ rfl rfl ?_
        simp -implicitDefEqProofs only [errS, push_cast, Nat.reduceBEq, Nat.reduceLT, Nat.reduceLeDiff, Nat.reduceAdd, Nat.reduceSub, Nat.reduceMul, Nat.reduceEqDiff, reduceCtorEq, ↓reduceIte, Int.reduceEq, Int.reduceLT, Int.reduceLE, Int.reduceNe, Int.reduceAdd, Int.reduceSub, Int.reduceMul, Int.reduceToNat, Nat.reduceShiftRight, Nat.reduceAnd, Nat.reduceBNe]
        refine callF hdv ⟨rfl, rfl, rfl, trivial⟩ rfl rfl ?_
        simp -implicitDefEqProofs only [push_cast, Nat.reduceBEq, Nat.reduceLT, Nat.reduceLeDiff, Nat.reduceAdd, Nat.reduceSub, Nat.reduceMul, Nat.reduceEqDiff, reduceCtorEq, ↓reduceIte, Int.reduceEq, Int.reduceLT, Int.reduceLE, Int.reduceNe, Int.reduceAdd, Int.reduceSub, Int.reduceMul, Int.reduceToNat, Nat.reduceShiftRight, Nat.reduceAnd, Nat.reduceBNe]
        refine callF (pick_pc cards places hpl hp) ⟨rfl, rfl, trivial⟩ rfl rfl ?_
        simp -implicitDefEqProofs only [push_cast, Nat.reduceBEq, Nat.reduceLT, Nat.reduceLeDiff, Nat.reduceAdd, Nat.reduceSub, Nat.reduceMul, Nat.reduceEqDiff, reduceCtorEq, ↓reduceIte, Int.reduceEq, Int.reduceLT, Int.reduceLE, Int.reduceNe, Int.reduceAdd, Int.reduceSub, Int.reduceMul, Int.reduceToNat, Nat.reduceShiftRight, Nat.reduceAnd, Nat.reduceBNe]
        refine callF hsz2 ⟨rfl, trivial⟩ rfl rfl ?_
        simp -implicitDefEqProofs only [errS, push_cast, Nat.reduceBEq, Nat.reduceLT, Nat.reduceLeDiff, Nat.reduceAdd, Nat.reduceSub, Nat.reduceMul, Nat.reduceEqDiff, reduceCtorEq, ↓reduceIte, Int.reduceEq, Int.reduceLT, Int.reduceLE, Int.reduceNe, Int.reduceAdd, Int.reduceSub, Int.reduceMul, Int.reduceToNat, Nat.reduceShiftRight, Nat.reduceAnd, Nat.reduceBNe]
        refine callB hw ⟨rd_seq rfl rfl, rd_seq rfl rfl, trivial⟩ rfl rfl ?_
        simp -implicitDefEqProofs only [push_cast, Nat.reduceBEq, Nat.reduceLT, Nat.reduceLeDiff, Nat.reduceAdd, Nat.reduceSub, Nat.reduceMul, Nat.reduceEqDiff, reduceCtorEq, ↓reduceIte, Int.reduceEq, Int.reduceLT, Int.reduceLE, Int.reduceNe, Int.reduceAdd, Int.reduceSub, Int.reduceMul, Int.reduceToNat, Nat.reduceShiftRight, Nat.reduceAnd, Nat.reduceBNe]
        exact finR 0 rfl ⟨trivial, rfl, trivial⟩
      | true =>
        rw [hi] at hw
        simp only [hi]
        refine pc_fn hmix h31 rfl ?_
        simp -implicitDefEqProofs only [c31, push_cast, Nat.reduceBEq, Nat.reduceLT, Nat.reduceLeDiff, Nat.reduceAdd, Nat.reduceSub, Nat.reduceMul, Nat.reduceEqDiff, reduceCtorEq, ↓reduceIte, Int.reduceEq, Int.reduceLT, Int.reduceLE, Int.reduceNe, Int.reduceAdd, Int.reduceSub, Int.reduceMul, Int.reduceToNat, Nat.reduceShiftRight, Nat.reduceAnd, Nat.reduceBNe]
        refine callF hz ⟨rfl, trivial⟩ rfl rfl ?_
        simp -implicitDefEqProofs only [errS, push_cast, Nat.reduceBEq, Nat.reduceLT, Nat.reduceLeDiff, Nat.reduceAdd, Nat.reduceSub, Nat.reduceMul, Nat.reduceEqDiff, reduceCtorEq, ↓reduceIte, Int.reduceEq, Int.reduceLT, Int.reduceLE, Int.reduceNe, Int.reduceAdd, Int.reduceSub, Int.reduceMul, Int.reduceToNat, Nat.reduceShiftRight, Nat.reduceAnd, Nat.reduceBNe]
        refine callF hdv ⟨rfl, rfl, rfl, trivial⟩ rfl rfl ?_
        simp -implicitDefEqProofs only [push_cast, Nat.reduceBEq, Nat.reduceLT, Nat.reduceLeDiff, Nat.reduceAdd, Nat.reduceSub, Nat.reduceMul, Nat.reduceEqDiff, reduceCtorEq, ↓reduceIte, Int.reduceEq, Int.reduceLT, Int.reduceLE, Int.reduceNe, Int.reduceAdd, Int.reduceSub, Int.reduceMul, Int.reduceToNat, Nat.reduceShiftRight, Nat.reduceAnd, Nat.reduceBNe]
        refine callF (pick_pc cards places hpl hp) ⟨rfl, rfl, trivial⟩ rfl rfl ?_
        simp -implicitDefEqProofs only [push_cast, Nat.reduceBEq, Nat.reduceLT, Nat.reduceLeDiff, Nat.reduceAdd, Nat.reduceSub, Nat.reduceMul, Nat.reduceEqDiff, reduceCtorEq, ↓reduceIte, Int.reduceEq, Int.reduceLT, Int.reduceLE, Int.reduceNe, Int.reduceAdd, Int.reduceSub, Int.reduceMul, Int.reduceToNat, Nat.reduceShiftRight, Nat.reduceAnd, Nat.reduceBNe]
        refine callF hsz2 ⟨rfl, trivial⟩ rfl rfl ?_
        simp -implicitDefEqProofs only [errS, push_cast, Nat.reduceBEq, Nat.reduceLT, Nat.reduceLeDiff, Nat.reduceAdd, Nat.reduceSub, Nat.reduceMul, Nat.reduceEqDiff, reduceCtorEq, ↓reduceIte, Int.reduceEq, Int.reduceLT, Int.reduceLE, Int.reduceNe, Int.reduceAdd, Int.reduceSub, Int.reduceMul, Int.reduceToNat, Nat.reduceShiftRight, Nat.reduceAnd, Nat.reduceBNe]
        refine callB hw ⟨rd_seq rfl rfl, rd_seq rfl rfl, trivial⟩ rfl rfl ?_
        simp -implicitDefEqProofs only [push_cast, Nat.reduceBEq, Nat.reduceLT, Nat.reduceLeDiff, Nat.reduceAdd, Nat.reduceSub, Nat.reduceMul, Nat.reduceEqDiff, reduceCtorEq, ↓reduceIte, Int.reduceEq, Int.reduceLT, Int.reduceLE, Int.reduceNe, Int.reduceAdd, Int.reduceSub, Int.reduceMul, Int.reduceToNat, Nat.reduceShiftRight, Nat.reduceAnd, Nat.reduceBNe]
        refine loop_w (α := Nat) (fun k => ⟨[(43, I k), (42, I n), (13, .slc 0 (spreadL cards places j k).length 0 (spreadL cards places j k).length), (10, IL (pickL cards places)), (2, I j), (1, IL places), (0, IL cards)], [.lst (.int .i64) (spreadL cards places j k)], []⟩)
          (fun k => k ≤ n.toNat) (fun k => n.toNat - k) 0 ((wk_cut [43, 42, 13, 10, 2, 1, 0] 0 rfl ⟨rfl, rfl, rfl⟩ rfl).trans (wk_own 13 (.int .i64) rfl)) (Nat.zero_le _) ?_
        intro k hk
        obtain ⟨p1, p2, p3⟩ := numpick hs hd (i := (k : Int)) (by omega) hpl
        have hsl := spreadL_length cards places j k
        simp -implicitDefEqProofs only [c31L0, push_cast, Nat.reduceBEq, Nat.reduceLT, Nat.reduceLeDiff, Nat.reduceAdd, Nat.reduceSub, Nat.reduceMul, Nat.reduceEqDiff, reduceCtorEq, ↓reduceIte, Int.reduceEq, Int.reduceLT, Int.reduceLE, Int.reduceNe, Int.reduceAdd, Int.reduceSub, Int.reduceMul, Int.reduceToNat, Nat.reduceShiftRight, Nat.reduceAnd, Nat.reduceBNe]
        refine ⟨fun h => ?_, fun h => ?_⟩
        · refine callF (comb_pc cards k (by omega) (fun c h => (hc c h).1) (by omega)) ⟨rfl, rfl, trivial⟩ rfl rfl ?_
          simp -implicitDefEqProofs only [push_cast, Nat.reduceBEq, Nat.reduceLT, Nat.reduceLeDiff, Nat.reduceAdd, Nat.reduceSub, Nat.reduceMul, Nat.reduceEqDiff, reduceCtorEq, ↓reduceIte, Int.reduceEq, Int.reduceLT, Int.reduceLE, Int.reduceNe, Int.reduceAdd, Int.reduceSub, Int.reduceMul, Int.reduceToNat, Nat.reduceShiftRight, Nat.reduceAnd, Nat.reduceBNe]
          refine callF p2 ⟨rfl, rfl, trivial⟩ rfl rfl ?_
          simp -implicitDefEqProofs only [push_cast, Nat.reduceBEq, Nat.reduceLT, Nat.reduceLeDiff, Nat.reduceAdd, Nat.reduceSub, Nat.reduceMul, Nat.reduceEqDiff, reduceCtorEq, ↓reduceIte, Int.reduceEq, Int.reduceLT, Int.reduceLE, Int.reduceNe, Int.reduceAdd, Int.reduceSub, Int.reduceMul, Int.reduceToNat, Nat.reduceShiftRight, Nat.reduceAnd, Nat.reduceBNe]
          refine callF p3 ⟨rfl, rfl, trivial⟩ rfl rfl ?_
          simp -implicitDefEqProofs only [push_cast, Nat.reduceBEq, Nat.reduceLT, Nat.reduceLeDiff, Nat.reduceAdd, Nat.reduceSub, Nat.reduceMul, Nat.reduceEqDiff, reduceCtorEq, ↓reduceIte, Int.reduceEq, Int.reduceLT, Int.reduceLE, Int.reduceNe, Int.reduceAdd, Int.reduceSub, Int.reduceMul, Int.reduceToNat, Nat.reduceShiftRight, Nat.reduceAnd, Nat.reduceBNe]
          have hS : spreadL cards places j (k + 1) = match decide (partN cards places k = j) with | true => spreadL cards places j k ++ [(k : Int)] | false => spreadL cards places j k := rfl
          refine ⟨fun hb => ⟨by simp only [two47]; omega, by simp only [inR]; omega, k + 1, by omega, by omega, ?_⟩, fun hb => ⟨by simp only [inR]; omega, k + 1, by omega, by omega, ?_⟩⟩
          · rw [decide_eq_true hb] at hS
            rw [hS]
            exact wk_cut [43, 42, 13, 10, 2, 1, 0] 1 rfl ⟨rfl, rfl, rfl⟩ rfl
          · rw [decide_eq_false hb] at hS
            rw [hS]
            exact wk_cut [43, 42, 13, 10, 2, 1, 0] 1 rfl ⟨rfl, rfl, rfl⟩ rfl
        · have hk2 : k = n.toNat := by omega
          subst hk2
          exact finR 1 rfl ⟨rd_lst rfl rfl, rfl, trivial⟩

theorem refspread_pc (cards places : List Int) (j n : Int) (hs : sizeS cards = some n) (hd : distinctL cards.length true F12 (-1) places = true) : PC Try.prog 32 [IL cards, IL places, I j] (IL (spreadL cards places j n.toNat)) := by
  obtain ⟨⟨hl, hc, _⟩, hn, h1, h2⟩ := okC_of hs
  obtain ⟨hp, hnd, hsz, hm1, hm2⟩ := pick_ok hs hd
  obtain ⟨hpl2, hz2⟩ := pick_size hs hd
  refine pc_fn hmix h32 rfl ?_
  simp -implicitDefEqProofs only [c32, push_cast, Nat.reduceBEq, Nat.reduceLT, Nat.reduceLeDiff, Nat.reduceAdd, Nat.reduceSub, Nat.reduceMul, Nat.reduceEqDiff, reduceCtorEq, ↓reduceIte, Int.reduceEq, Int.reduceLT, Int.reduceLE, Int.reduceNe, Int.reduceAdd, Int.reduceSub, Int.reduceMul, Int.reduceToNat, Nat.reduceShiftRight, Nat.reduceAnd, Nat.reduceBNe]
  refine loop_w (α := Nat) (fun k => ⟨[(8, I k), (7, .slc 0 (spreadL cards places j k).length 0 (spreadL cards places j k).length), (2, I j), (1, IL places), (0, IL cards)], [.lst (.int .i64) (spreadL cards places j k)], []⟩)
    (fun k => k ≤ n.toNat) (fun k => n.toNat - k) 0 ((wk_cut [8, 7, 2, 1, 0] 0 rfl ⟨rfl, rfl, rfl⟩ rfl).trans (wk_own 7 (.int .i64) rfl)) (Nat.zero_le _) ?_
  intro k hk
  have hsl := spreadL_length cards places j k
  simp -implicitDefEqProofs only [c32L0, push_cast, Nat.reduceBEq, Nat.reduceLT, Nat.reduceLeDiff, Nat.reduceAdd, Nat.reduceSub, Nat.reduceMul, Nat.reduceEqDiff, reduceCtorEq, ↓reduceIte, Int.reduceEq, Int.reduceLT, Int.reduceLE, Int.reduceNe, Int.reduceAdd, Int.reduceSub, Int.reduceMul, Int.reduceToNat, Nat.reduceShiftRight, Nat.reduceAnd, Nat.reduceBNe]
  refine callF (refsize_vc cards n hn (by omega)) ⟨rfl, trivial⟩ rfl rfl ?_
  simp -implicitDefEqProofs only [push_cast, Nat.reduceBEq, Nat.reduceLT, Nat.reduceLeDiff, Nat.reduceAdd, Nat.reduceSub, Nat.reduceMul, Nat.reduceEqDiff, reduceCtorEq, ↓reduceIte, Int.reduceEq, Int.reduceLT, Int.reduceLE, Int.reduceNe, Int.reduceAdd, Int.reduceSub, Int.reduceMul, Int.reduceToNat, Nat.reduceShiftRight, Nat.reduceAnd, Nat.reduceBNe]
  refine ⟨fun h => ?_, fun h => ?_⟩
  · have hw := withinL_pick cards (digs cards k).1 places (digs_length _ _) hp (digs_within k (by omega) cards (fun c h => (hc c h).1))
    refine callF (refpart_vc cards places k n _ hn (by omega) (by omega) hp (fun c h => (hc c h).1) (by omega) hsz hw) ⟨rfl, rfl, rfl, trivial⟩ rfl rfl ?_
    simp -implicitDefEqProofs only [push_cast, Nat.reduceBEq, Nat.reduceLT, Nat.reduceLeDiff, Nat.reduceAdd, Nat.reduceSub, Nat.reduceMul, Nat.reduceEqDiff, reduceCtorEq, ↓reduceIte, Int.reduceEq, Int.reduceLT, Int.reduceLE, Int.reduceNe, Int.reduceAdd, Int.reduceSub, Int.reduceMul, Int.reduceToNat, Nat.reduceShiftRight, Nat.reduceAnd, Nat.reduceBNe]
    have hS : spreadL cards places j (k + 1) = match decide (partN cards places k = j) with | true => spreadL cards places j k ++ [(k : Int)] | false => spreadL cards places j k := rfl
    refine ⟨fun hb => ⟨by simp only [two47]; omega, by simp only [inR]; omega, k + 1, by omega, by omega, ?_⟩, fun hb => ⟨by simp only [inR]; omega, k + 1, by omega, by omega, ?_⟩⟩
    · have hb : partN cards places k = j := hb
      rw [decide_eq_true hb] at hS
      rw [hS]
      exact wk_cut [8, 7, 2, 1, 0] 1 rfl ⟨rfl, rfl, rfl⟩ rfl
    · have hb : ¬ partN cards places k = j := hb
      rw [decide_eq_false hb] at hS
      rw [hS]
      exact wk_cut [8, 7, 2, 1, 0] 1 rfl ⟨rfl, rfl, rfl⟩ rfl
  · have hk2 : k = n.toNat := by omega
    subst hk2
    exact finR 1 rfl (fz_lst rfl rfl)
end Go.Proofs.Ytcplbmlebogffaa

namespace Go.Proofs.Ytcplbmlebogffaa
open Go GoV
set_option maxHeartbeats 4000000
set_option maxRecDepth 10000

theorem distinct_places (n : Int) (hn : n ≤ 12) : ∀ (l : List Int) (seen : List Bool) (last : Int), seen.length = 12 → -1 ≤ last → (∀ j : Nat, seen.getD j false = true → (j : Int) ≤ last) → distinctL n true seen last l = placesL n last l
  | [], _, _, _, _, _ => rfl
  | k :: r, seen, last, hs, hlast, hseen => by
    simp only [distinctL, placesL]
    by_cases hc : (0 ≤ k ∧ k < n) ∧ last < k
    · have hns : ¬ seen.getD k.toNat false = true := fun h => by have := hseen _ h; omega
      rw [if_neg (by
        rintro ((h | h) | ⟨_, h⟩)
        · omega
        · exact hns h
        · omega), decide_eq_true hc, Bool.true_and]
      refine distinct_places n hn r (seen.set k.toNat true) k (by simpa using hs) (by omega) (fun j hj => ?_)
      by_cases e : j = k.toNat
      · omega
      · have : (seen.set k.toNat true).getD j false = seen.getD j false := by
          simp only [List.getD_eq_getElem?_getD]
          rw [List.getElem?_set_ne (fun e' => e e'.symm)]
        rw [this] at hj
        have := hseen j hj
        omega
    · rw [decide_eq_false hc, Bool.false_and, if_pos]
      by_cases h1 : k < 0 ∨ n ≤ k
      · exact .inl (.inl h1)
      · exact .inr ⟨trivial, by omega⟩

theorem F12_get (j : Nat) : F12.getD j false = false := by
  unfold F12
  simp only [List.getD_eq_getElem?_getD, List.getElem?_replicate]
  split <;> rfl

def U16 (k : Int) : AV := .dat (.int .u16) k

/-- what the two lists give -/
theorem parts_of (a b : List Int) (ha : a.length ≤ 14) (hb : b.length ≤ 14) : ∃ no sz sm rt, PC Try.prog 13 [IL a] (I no) ∧
    ((sizeS a = none ∧ no = 20 ∧ sz = 0 ∧ sm = 0 ∧ rt = false) ∨
     (sizeS a = some sz ∧ no = 0 ∧ PC Try.prog 16 [IL a] (I sz) ∧ PC Try.prog 27 [IL b, I (a.length : Int)] (B rt) ∧ (1 ≤ sz ∧ sz ≤ 4096) ∧ distinctL a.length true F12 (-1) b = rt ∧
       ((rt = false ∧ sm = 0) ∨ (rt = true ∧ sm = prodL (pickL a b) ∧ (1 ≤ sm ∧ sm ≤ 4096) ∧ PC Try.prog 28 [IL a, IL b] (IL (pickL a b)) ∧ PC Try.prog 16 [IL (pickL a b)] (I sm))))) := by
  have hfi := first_vc a
  cases hs : sizeS a with
  | none => rw [hs] at hfi; exact ⟨20, 0, 0, false, hfi, .inl ⟨rfl, rfl, rfl, rfl, rfl⟩⟩
  | some n =>
    rw [hs] at hfi
    obtain ⟨⟨hl, hc, _⟩, hn, h1⟩ := okC_of hs
    have hpl := places_vc b a.length (by omega)
    have hdp := distinct_places a.length (by omega) b F12 (-1) rfl (by omega) (fun j hj => by rw [F12_get] at hj; cases hj)
    rw [← hdp] at hpl
    cases hd : distinctL a.length true F12 (-1) b with
    | false =>
      rw [hd] at hpl
      exact ⟨0, n, 0, false, hfi, .inr ⟨rfl, rfl, refsize_vc a n hn (by omega), hpl, h1, rfl, .inl ⟨rfl, rfl⟩⟩⟩
    | true =>
      rw [hd] at hpl
      obtain ⟨hp, hnd, hsz, hm1, hm2⟩ := pick_ok hs hd
      exact ⟨0, n, prodL (pickL a b), true, hfi, .inr ⟨rfl, rfl, refsize_vc a n hn (by omega), hpl, h1, rfl, .inr ⟨rfl, rfl, ⟨hm1, hm2⟩, at_pc a b (by omega) hp, refsize_vc _ _ hsz (by simp [pickL]; omega)⟩⟩⟩

theorem law4_pc (cards places : List Int) (i : Int) (dc : List Int) (dw : Int) (dof : List Int) (k : Int) (hi : inR .i64 i) (hk : 0 ≤ k ∧ k ≤ 65535) (hdc : ∀ x ∈ dc, 0 ≤ x ∧ x ≤ 255) (hdw : 0 ≤ dw ∧ dw ≤ 65535) :
    PC Try.prog 4 [IL cards, IL places, I i, DA dc dw dof, .dat (.int .u16) k] (B true) := by
  refine pc_fn hmix h4 rfl ?_
  simp -implicitDefEqProofs only [c4, push_cast, Nat.reduceBEq, Nat.reduceLT, Nat.reduceLeDiff, Nat.reduceAdd, Nat.reduceSub, Nat.reduceMul, Nat.reduceEqDiff, reduceCtorEq, ↓reduceIte, Int.reduceEq, Int.reduceLT, Int.reduceLE, Int.reduceNe, Int.reduceAdd, Int.reduceSub, Int.reduceMul, Int.reduceToNat, Nat.reduceShiftRight, Nat.reduceAnd, Nat.reduceBNe]
  refine callF works_pc trivial rfl rfl ?_
  simp -implicitDefEqProofs only [push_cast, Nat.reduceBEq, Nat.reduceLT, Nat.reduceLeDiff, Nat.reduceAdd, Nat.reduceSub, Nat.reduceMul, Nat.reduceEqDiff, reduceCtorEq, ↓reduceIte, Int.reduceEq, Int.reduceLT, Int.reduceLE, Int.reduceNe, Int.reduceAdd, Int.reduceSub, Int.reduceMul, Int.reduceToNat, Nat.reduceShiftRight, Nat.reduceAnd, Nat.reduceBNe]
  refine ppF (cut_vc cards) ⟨rfl, trivial⟩ rfl rfl ?_
  simp -implicitDefEqProofs only [push_cast, Nat.reduceBEq, Nat.reduceLT, Nat.reduceLeDiff, Nat.reduceAdd, Nat.reduceSub, Nat.reduceMul, Nat.reduceEqDiff, reduceCtorEq, ↓reduceIte, Int.reduceEq, Int.reduceLT, Int.reduceLE, Int.reduceNe, Int.reduceAdd, Int.reduceSub, Int.reduceMul, Int.reduceToNat, Nat.reduceShiftRight, Nat.reduceAnd, Nat.reduceBNe]
  refine ppF (cut_vc places) ⟨rfl, trivial⟩ rfl rfl ?_
  simp -implicitDefEqProofs only [push_cast, Nat.reduceBEq, Nat.reduceLT, Nat.reduceLeDiff, Nat.reduceAdd, Nat.reduceSub, Nat.reduceMul, Nat.reduceEqDiff, reduceCtorEq, ↓reduceIte, Int.reduceEq, Int.reduceLT, Int.reduceLE, Int.reduceNe, Int.reduceAdd, Int.reduceSub, Int.reduceMul, Int.reduceToNat, Nat.reduceShiftRight, Nat.reduceAnd, Nat.reduceBNe]
  refine ppF (cards_pc dc dw dof hdc) ⟨⟨rfl, ⟨rfl, rfl⟩, ⟨rfl, rfl⟩, ⟨rfl, rfl⟩, rfl⟩, trivial⟩ rfl rfl ?_
  simp -implicitDefEqProofs only [push_cast, Nat.reduceBEq, Nat.reduceLT, Nat.reduceLeDiff, Nat.reduceAdd, Nat.reduceSub, Nat.reduceMul, Nat.reduceEqDiff, reduceCtorEq, ↓reduceIte, Int.reduceEq, Int.reduceLT, Int.reduceLE, Int.reduceNe, Int.reduceAdd, Int.reduceSub, Int.reduceMul, Int.reduceToNat, Nat.reduceShiftRight, Nat.reduceAnd, Nat.reduceBNe]
  refine ppF (cut_vc places) ⟨rfl, trivial⟩ rfl rfl ?_
  simp -implicitDefEqProofs only [push_cast, Nat.reduceBEq, Nat.reduceLT, Nat.reduceLeDiff, Nat.reduceAdd, Nat.reduceSub, Nat.reduceMul, Nat.reduceEqDiff, reduceCtorEq, ↓reduceIte, Int.reduceEq, Int.reduceLT, Int.reduceLE, Int.reduceNe, Int.reduceAdd, Int.reduceSub, Int.reduceMul, Int.reduceToNat, Nat.reduceShiftRight, Nat.reduceAnd, Nat.reduceBNe]
  refine ppF (cards_pc dc dw dof hdc) ⟨⟨rfl, ⟨rfl, rfl⟩, ⟨rfl, rfl⟩, ⟨rfl, rfl⟩, rfl⟩, trivial⟩ rfl rfl ?_
  simp -implicitDefEqProofs only [push_cast, Nat.reduceBEq, Nat.reduceLT, Nat.reduceLeDiff, Nat.reduceAdd, Nat.reduceSub, Nat.reduceMul, Nat.reduceEqDiff, reduceCtorEq, ↓reduceIte, Int.reduceEq, Int.reduceLT, Int.reduceLE, Int.reduceNe, Int.reduceAdd, Int.reduceSub, Int.reduceMul, Int.reduceToNat, Nat.reduceShiftRight, Nat.reduceAnd, Nat.reduceBNe]
  refine ppF (draftplaces_pc dc dw dof hdc hdw) ⟨⟨rfl, ⟨rfl, rfl⟩, ⟨rfl, rfl⟩, ⟨rfl, rfl⟩, rfl⟩, trivial⟩ rfl rfl ?_
  simp -implicitDefEqProofs only [push_cast, Nat.reduceBEq, Nat.reduceLT, Nat.reduceLeDiff, Nat.reduceAdd, Nat.reduceSub, Nat.reduceMul, Nat.reduceEqDiff, reduceCtorEq, ↓reduceIte, Int.reduceEq, Int.reduceLT, Int.reduceLE, Int.reduceNe, Int.reduceAdd, Int.reduceSub, Int.reduceMul, Int.reduceToNat, Nat.reduceShiftRight, Nat.reduceAnd, Nat.reduceBNe]
  obtain ⟨c1, hc1⟩ : ∃ c1, List.take 14 cards = c1 := ⟨_, rfl⟩
  obtain ⟨c2, hc2⟩ : ∃ c2, cardsL dc = c2 := ⟨_, rfl⟩
  obtain ⟨p1, hp1⟩ : ∃ p1, List.take 14 places = p1 := ⟨_, rfl⟩
  obtain ⟨p2, hp2⟩ : ∃ p2, placesD dw c2.length = p2 := ⟨_, rfl⟩
  have hl1 : c1.length ≤ 14 := by rw [← hc1, List.length_take]; omega
  have hl2 : c2.length ≤ 5 := by rw [← hc2]; simp [cardsL]; omega
  have hl3 : p1.length ≤ 14 := by rw [← hp1, List.length_take]; omega
  have hl4 : p2.length ≤ 14 := by rw [← hp2]; have := placesD_length dw c2.length; omega
  rw [hc1, hc2, hp1, hp2]
  refine loop_w (α := Nat) (fun q => ⟨[(43, I q), (42, .agg [IL c1, IL p1, IL c2, IL p1, IL c2, IL p2]), (4, U16 k), (2, I i)], [boxD dc dw dof], []⟩) (fun q => q ≤ 3) (fun q => 3 - q) 0 (wk_cut [43, 42, 4, 2] 1 rfl ⟨rfl, rfl, rfl⟩ rfl) (by omega) ?_
  intro q hq
  by_cases hq2 : q = 3
  · subst hq2
    simp -implicitDefEqProofs only [c4L1, push_cast, Nat.reduceBEq, Nat.reduceLT, Nat.reduceLeDiff, Nat.reduceAdd, Nat.reduceSub, Nat.reduceMul, Nat.reduceEqDiff, reduceCtorEq, ↓reduceIte, Int.reduceEq, Int.reduceLT, Int.reduceLE, Int.reduceNe, Int.reduceAdd, Int.reduceSub, Int.reduceMul, Int.reduceToNat, Nat.reduceShiftRight, Nat.reduceAnd, Nat.reduceBNe]
    exact finC rfl rfl
  obtain ⟨a, b, hget, hget2, hla, hlb⟩ : ∃ a b : List Int, decide (q * 2 ≤ 4) = true ∧ List.take 2 (List.drop (q * 2) [IL c1, IL p1, IL c2, IL p1, IL c2, IL p2]) = [IL a, IL b] ∧ a.length ≤ 14 ∧ b.length ≤ 14 := by
    have : q = 0 ∨ q = 1 ∨ q = 2 := by omega
    rcases this with rfl | rfl | rfl
    · exact ⟨c1, p1, rfl, rfl, hl1, hl3⟩
    · exact ⟨c2, p1, rfl, rfl, by omega, hl3⟩
    · exact ⟨c2, p2, rfl, rfl, by omega, hl4⟩
  obtain ⟨no, sz, sm, rt, hfi, hcase⟩ := parts_of a b hla hlb
  have hpart := fun j => part_pc a b j (by omega)
  have hspr := fun j => spread_pc a b j (by omega)
  unfold partS at hpart
  unfold spreadS at hspr
  simp -implicitDefEqProofs only [c4L1, U16, hget, hget2, push_cast, Nat.reduceBEq, Nat.reduceLT, Nat.reduceLeDiff, Nat.reduceAdd, Nat.reduceSub, Nat.reduceMul, Nat.reduceEqDiff, reduceCtorEq, ↓reduceIte, Int.reduceEq, Int.reduceLT, Int.reduceLE, Int.reduceNe, Int.reduceAdd, Int.reduceSub, Int.reduceMul, Int.reduceToNat, Nat.reduceShiftRight, Nat.reduceAnd, Nat.reduceBNe]
  refine ⟨fun _ => ⟨by omega, ?_⟩, fun h => by omega⟩
  refine callF hfi ⟨rfl, trivial⟩ rfl rfl ?_
  simp -implicitDefEqProofs only [push_cast, Nat.reduceBEq, Nat.reduceLT, Nat.reduceLeDiff, Nat.reduceAdd, Nat.reduceSub, Nat.reduceMul, Nat.reduceEqDiff, reduceCtorEq, ↓reduceIte, Int.reduceEq, Int.reduceLT, Int.reduceLE, Int.reduceNe, Int.reduceAdd, Int.reduceSub, Int.reduceMul, Int.reduceToNat, Nat.reduceShiftRight, Nat.reduceAnd, Nat.reduceBNe]
  rcases hcase with ⟨hs, rfl, rfl, rfl, rfl⟩ | ⟨hs, rfl, hrs, hrp, hsz1, hd, hrt⟩
  · rw [hs] at hpart hspr
    simp only at hpart hspr
    simp -implicitDefEqProofs only [push_cast, Nat.reduceBEq, Nat.reduceLT, Nat.reduceLeDiff, Nat.reduceAdd, Nat.reduceSub, Nat.reduceMul, Nat.reduceEqDiff, reduceCtorEq, ↓reduceIte, Int.reduceEq, Int.reduceLT, Int.reduceLE, Int.reduceNe, Int.reduceAdd, Int.reduceSub, Int.reduceMul, Int.reduceToNat, Nat.reduceShiftRight, Nat.reduceAnd, Nat.reduceBNe]
    have hmod : ∀ z : Int, z ≤ 4096 → 0 ≤ k.tmod (max 1 z) ∧ k.tmod (max 1 z) ≤ 4096 := by
      intro z hz
      have h1 : 0 ≤ k.tmod (max 1 z) := Int.tmod_nonneg _ hk.1
      have h2 := Int.tmod_lt_of_pos k (show 0 < max 1 z by omega)
      omega
    have hm1 := hmod 0 (by omega)
    have hm2 := hmod 0 (by omega)
    refine ⟨by simp only [inR]; omega, by omega, by simp only [inR]; omega, by omega, ?_⟩
    refine loop_w (α := Nat) (fun q2 => ⟨[(83, I q2), (82, .agg [I i, I (k.tmod (max 1 0)), I (k.tmod (max 1 0))]), (43, I q), (42, .agg [IL c1, IL p1, IL c2, IL p1, IL c2, IL p2]), (16, I 0), (15, I 0), (14, B false), (13, I 20), (12, .ptr 1 0), (4, U16 k), (2, I i)], [boxD dc dw dof, .box [IL a, IL b]], []⟩) (fun q2 => q2 ≤ 3) (fun q2 => 3 - q2) 0 (wk_cut [83, 82, 43, 42, 16, 15, 14, 13, 12, 4, 2] 2 rfl ⟨rfl, rfl, rfl⟩ rfl) (by omega) ?_
    intro q2 hq2
    by_cases hq3 : q2 = 3
    · subst hq3
      simp -implicitDefEqProofs only [c4L0, U16, push_cast, Nat.reduceBEq, Nat.reduceLT, Nat.reduceLeDiff, Nat.reduceAdd, Nat.reduceSub, Nat.reduceMul, Nat.reduceEqDiff, reduceCtorEq, ↓reduceIte, Int.reduceEq, Int.reduceLT, Int.reduceLE, Int.reduceNe, Int.reduceAdd, Int.reduceSub, Int.reduceMul, Int.reduceToNat, Nat.reduceShiftRight, Nat.reduceAnd, Nat.reduceBNe]
      refine ⟨by simp only [inR]; omega, q + 1, by omega, by omega, wk_cut [43, 42, 4, 2] 1 rfl ⟨rfl, rfl, rfl⟩ rfl⟩
    obtain ⟨j, hgj, hij⟩ : ∃ j : Int, [I i, I (k.tmod (max 1 0)), I (k.tmod (max 1 0))][q2]? = some (I j) ∧ inR .i64 j := by
      have : q2 = 0 ∨ q2 = 1 ∨ q2 = 2 := by omega
      rcases this with rfl | rfl | rfl
      · exact ⟨_, rfl, hi⟩
      · exact ⟨_, rfl, by simp only [inR]; omega⟩
      · exact ⟨_, rfl, by simp only [inR]; omega⟩
    have hpj := hpart j
    have hsj := hspr j
    simp -implicitDefEqProofs only [c4L0, U16, Nat.mul_one, hgj, push_cast, Nat.reduceBEq, Nat.reduceLT, Nat.reduceLeDiff, Nat.reduceAdd, Nat.reduceSub, Nat.reduceMul, Nat.reduceEqDiff, reduceCtorEq, ↓reduceIte, Int.reduceEq, Int.reduceLT, Int.reduceLE, Int.reduceNe, Int.reduceAdd, Int.reduceSub, Int.reduceMul, Int.reduceToNat, Nat.reduceShiftRight, Nat.reduceAnd, Nat.reduceBNe]
    refine ⟨fun _ => ⟨by omega, ?_⟩, fun h => by omega⟩
    refine callF hpj ⟨rfl, rfl, rfl, trivial⟩ rfl rfl ?_
    simp -implicitDefEqProofs only [push_cast, Nat.reduceBEq, Nat.reduceLT, Nat.reduceLeDiff, Nat.reduceAdd, Nat.reduceSub, Nat.reduceMul, Nat.reduceEqDiff, reduceCtorEq, ↓reduceIte, Int.reduceEq, Int.reduceLT, Int.reduceLE, Int.reduceNe, Int.reduceAdd, Int.reduceSub, Int.reduceMul, Int.reduceToNat, Nat.reduceShiftRight, Nat.reduceAnd, Nat.reduceBNe]
    refine callF (then_vc 20 false) ⟨rfl, rfl, trivial⟩ rfl rfl ?_
    simp -implicitDefEqProofs only [show thenI 20 false = 20 from rfl, push_cast, Nat.reduceBEq, Nat.reduceLT, Nat.reduceLeDiff, Nat.reduceAdd, Nat.reduceSub, Nat.reduceMul, Nat.reduceEqDiff, reduceCtorEq, ↓reduceIte, Int.reduceEq, Int.reduceLT, Int.reduceLE, Int.reduceNe, Int.reduceAdd, Int.reduceSub, Int.reduceMul, Int.reduceToNat, Nat.reduceShiftRight, Nat.reduceAnd, Nat.reduceBNe]
    refine callF (lawnumber_vc 0 20 20 0) ⟨rfl, rfl, rfl, rfl, trivial⟩ rfl rfl ?_
    have e : numberB 0 20 20 0 = true := by simp [numberB]
    simp -implicitDefEqProofs only [e, push_cast, Nat.reduceBEq, Nat.reduceLT, Nat.reduceLeDiff, Nat.reduceAdd, Nat.reduceSub, Nat.reduceMul, Nat.reduceEqDiff, reduceCtorEq, ↓reduceIte, Int.reduceEq, Int.reduceLT, Int.reduceLE, Int.reduceNe, Int.reduceAdd, Int.reduceSub, Int.reduceMul, Int.reduceToNat, Nat.reduceShiftRight, Nat.reduceAnd, Nat.reduceBNe]
    refine callF hsj ⟨rfl, rfl, rfl, trivial⟩ rfl rfl ?_
    simp -implicitDefEqProofs only [push_cast, Nat.reduceBEq, Nat.reduceLT, Nat.reduceLeDiff, Nat.reduceAdd, Nat.reduceSub, Nat.reduceMul, Nat.reduceEqDiff, reduceCtorEq, ↓reduceIte, Int.reduceEq, Int.reduceLT, Int.reduceLE, Int.reduceNe, Int.reduceAdd, Int.reduceSub, Int.reduceMul, Int.reduceToNat, Nat.reduceShiftRight, Nat.reduceAnd, Nat.reduceBNe]
    refine callF (then_vc 20 false) ⟨rfl, rfl, trivial⟩ rfl rfl ?_
    simp -implicitDefEqProofs only [show thenI 20 false = 20 from rfl, push_cast, Nat.reduceBEq, Nat.reduceLT, Nat.reduceLeDiff, Nat.reduceAdd, Nat.reduceSub, Nat.reduceMul, Nat.reduceEqDiff, reduceCtorEq, ↓reduceIte, Int.reduceEq, Int.reduceLT, Int.reduceLE, Int.reduceNe, Int.reduceAdd, Int.reduceSub, Int.reduceMul, Int.reduceToNat, Nat.reduceShiftRight, Nat.reduceAnd, Nat.reduceBNe]
    refine ⟨by simp only [inR]; omega, q2 + 1, by omega, by omega, wk_cut [83, 82, 43, 42, 16, 15, 14, 13, 12, 4, 2] 2 rfl ⟨rfl, rfl, rfl⟩ rfl⟩
  obtain ⟨⟨hl, hc, _⟩, hn, _⟩ := okC_of hs
  rw [hs] at hpart hspr
  rcases hrt with ⟨rfl, rfl⟩ | ⟨rfl, hsm, hsm1, hat, hrs2⟩
  · rw [hd] at hpart hspr
    simp only at hpart hspr
    simp -implicitDefEqProofs only [push_cast, Nat.reduceBEq, Nat.reduceLT, Nat.reduceLeDiff, Nat.reduceAdd, Nat.reduceSub, Nat.reduceMul, Nat.reduceEqDiff, reduceCtorEq, ↓reduceIte, Int.reduceEq, Int.reduceLT, Int.reduceLE, Int.reduceNe, Int.reduceAdd, Int.reduceSub, Int.reduceMul, Int.reduceToNat, Nat.reduceShiftRight, Nat.reduceAnd, Nat.reduceBNe]
    refine callF hrp ⟨rfl, rfl, trivial⟩ rfl rfl ?_
    simp -implicitDefEqProofs only [push_cast, Nat.reduceBEq, Nat.reduceLT, Nat.reduceLeDiff, Nat.reduceAdd, Nat.reduceSub, Nat.reduceMul, Nat.reduceEqDiff, reduceCtorEq, ↓reduceIte, Int.reduceEq, Int.reduceLT, Int.reduceLE, Int.reduceNe, Int.reduceAdd, Int.reduceSub, Int.reduceMul, Int.reduceToNat, Nat.reduceShiftRight, Nat.reduceAnd, Nat.reduceBNe]
    refine callF hrs ⟨rfl, trivial⟩ rfl rfl ?_
    simp -implicitDefEqProofs only [push_cast, Nat.reduceBEq, Nat.reduceLT, Nat.reduceLeDiff, Nat.reduceAdd, Nat.reduceSub, Nat.reduceMul, Nat.reduceEqDiff, reduceCtorEq, ↓reduceIte, Int.reduceEq, Int.reduceLT, Int.reduceLE, Int.reduceNe, Int.reduceAdd, Int.reduceSub, Int.reduceMul, Int.reduceToNat, Nat.reduceShiftRight, Nat.reduceAnd, Nat.reduceBNe]
    have hmod : ∀ z : Int, z ≤ 4096 → 0 ≤ k.tmod (max 1 z) ∧ k.tmod (max 1 z) ≤ 4096 := by
      intro z hz
      have h1 : 0 ≤ k.tmod (max 1 z) := Int.tmod_nonneg _ hk.1
      have h2 := Int.tmod_lt_of_pos k (show 0 < max 1 z by omega)
      omega
    have hm1 := hmod sz (by omega)
    have hm2 := hmod 0 (by omega)
    refine ⟨by simp only [inR]; omega, by omega, by simp only [inR]; omega, by omega, ?_⟩
    refine loop_w (α := Nat) (fun q2 => ⟨[(83, I q2), (82, .agg [I i, I (k.tmod (max 1 sz)), I (k.tmod (max 1 0))]), (43, I q), (42, .agg [IL c1, IL p1, IL c2, IL p1, IL c2, IL p2]), (16, I 0), (15, I sz), (14, B false), (13, I 0), (12, .ptr 1 0), (4, U16 k), (2, I i)], [boxD dc dw dof, .box [IL a, IL b]], []⟩) (fun q2 => q2 ≤ 3) (fun q2 => 3 - q2) 0 (wk_cut [83, 82, 43, 42, 16, 15, 14, 13, 12, 4, 2] 2 rfl ⟨rfl, rfl, rfl⟩ rfl) (by omega) ?_
    intro q2 hq2
    by_cases hq3 : q2 = 3
    · subst hq3
      simp -implicitDefEqProofs only [c4L0, U16, push_cast, Nat.reduceBEq, Nat.reduceLT, Nat.reduceLeDiff, Nat.reduceAdd, Nat.reduceSub, Nat.reduceMul, Nat.reduceEqDiff, reduceCtorEq, ↓reduceIte, Int.reduceEq, Int.reduceLT, Int.reduceLE, Int.reduceNe, Int.reduceAdd, Int.reduceSub, Int.reduceMul, Int.reduceToNat, Nat.reduceShiftRight, Nat.reduceAnd, Nat.reduceBNe]
      refine ⟨by simp only [inR]; omega, q + 1, by omega, by omega, wk_cut [43, 42, 4, 2] 1 rfl ⟨rfl, rfl, rfl⟩ rfl⟩
    obtain ⟨j, hgj, hij⟩ : ∃ j : Int, [I i, I (k.tmod (max 1 sz)), I (k.tmod (max 1 0))][q2]? = some (I j) ∧ inR .i64 j := by
      have : q2 = 0 ∨ q2 = 1 ∨ q2 = 2 := by omega
      rcases this with rfl | rfl | rfl
      · exact ⟨_, rfl, hi⟩
      · exact ⟨_, rfl, by simp only [inR]; omega⟩
      · exact ⟨_, rfl, by simp only [inR]; omega⟩
    have hpj := hpart j
    have hsj := hspr j
    simp -implicitDefEqProofs only [c4L0, U16, Nat.mul_one, hgj, push_cast, Nat.reduceBEq, Nat.reduceLT, Nat.reduceLeDiff, Nat.reduceAdd, Nat.reduceSub, Nat.reduceMul, Nat.reduceEqDiff, reduceCtorEq, ↓reduceIte, Int.reduceEq, Int.reduceLT, Int.reduceLE, Int.reduceNe, Int.reduceAdd, Int.reduceSub, Int.reduceMul, Int.reduceToNat, Nat.reduceShiftRight, Nat.reduceAnd, Nat.reduceBNe]
    refine ⟨fun _ => ⟨by omega, ?_⟩, fun h => by omega⟩
    refine callF hpj ⟨rfl, rfl, rfl, trivial⟩ rfl rfl ?_
    simp -implicitDefEqProofs only [push_cast, Nat.reduceBEq, Nat.reduceLT, Nat.reduceLeDiff, Nat.reduceAdd, Nat.reduceSub, Nat.reduceMul, Nat.reduceEqDiff, reduceCtorEq, ↓reduceIte, Int.reduceEq, Int.reduceLT, Int.reduceLE, Int.reduceNe, Int.reduceAdd, Int.reduceSub, Int.reduceMul, Int.reduceToNat, Nat.reduceShiftRight, Nat.reduceAnd, Nat.reduceBNe]
    refine callF (then_vc 0 false) ⟨rfl, rfl, trivial⟩ rfl rfl ?_
    simp -implicitDefEqProofs only [show thenI 0 false = 2 from rfl, push_cast, Nat.reduceBEq, Nat.reduceLT, Nat.reduceLeDiff, Nat.reduceAdd, Nat.reduceSub, Nat.reduceMul, Nat.reduceEqDiff, reduceCtorEq, ↓reduceIte, Int.reduceEq, Int.reduceLT, Int.reduceLE, Int.reduceNe, Int.reduceAdd, Int.reduceSub, Int.reduceMul, Int.reduceToNat, Nat.reduceShiftRight, Nat.reduceAnd, Nat.reduceBNe]
    refine callF (lawnumber_vc 0 2 2 0) ⟨rfl, rfl, rfl, rfl, trivial⟩ rfl rfl ?_
    have e : numberB 0 2 2 0 = true := by simp [numberB]
    simp -implicitDefEqProofs only [e, push_cast, Nat.reduceBEq, Nat.reduceLT, Nat.reduceLeDiff, Nat.reduceAdd, Nat.reduceSub, Nat.reduceMul, Nat.reduceEqDiff, reduceCtorEq, ↓reduceIte, Int.reduceEq, Int.reduceLT, Int.reduceLE, Int.reduceNe, Int.reduceAdd, Int.reduceSub, Int.reduceMul, Int.reduceToNat, Nat.reduceShiftRight, Nat.reduceAnd, Nat.reduceBNe]
    refine callF hsj ⟨rfl, rfl, rfl, trivial⟩ rfl rfl ?_
    simp -implicitDefEqProofs only [push_cast, Nat.reduceBEq, Nat.reduceLT, Nat.reduceLeDiff, Nat.reduceAdd, Nat.reduceSub, Nat.reduceMul, Nat.reduceEqDiff, reduceCtorEq, ↓reduceIte, Int.reduceEq, Int.reduceLT, Int.reduceLE, Int.reduceNe, Int.reduceAdd, Int.reduceSub, Int.reduceMul, Int.reduceToNat, Nat.reduceShiftRight, Nat.reduceAnd, Nat.reduceBNe]
    refine callF (then_vc 0 false) ⟨rfl, rfl, trivial⟩ rfl rfl ?_
    simp -implicitDefEqProofs only [show thenI 0 false = 2 from rfl, push_cast, Nat.reduceBEq, Nat.reduceLT, Nat.reduceLeDiff, Nat.reduceAdd, Nat.reduceSub, Nat.reduceMul, Nat.reduceEqDiff, reduceCtorEq, ↓reduceIte, Int.reduceEq, Int.reduceLT, Int.reduceLE, Int.reduceNe, Int.reduceAdd, Int.reduceSub, Int.reduceMul, Int.reduceToNat, Nat.reduceShiftRight, Nat.reduceAnd, Nat.reduceBNe]
    refine ⟨by simp only [inR]; omega, q2 + 1, by omega, by omega, wk_cut [83, 82, 43, 42, 16, 15, 14, 13, 12, 4, 2] 2 rfl ⟨rfl, rfl, rfl⟩ rfl⟩
  · rw [hd] at hpart hspr
    obtain ⟨hp, hnd, hsz, _, _⟩ := pick_ok hs hd
    simp -implicitDefEqProofs only [push_cast, Nat.reduceBEq, Nat.reduceLT, Nat.reduceLeDiff, Nat.reduceAdd, Nat.reduceSub, Nat.reduceMul, Nat.reduceEqDiff, reduceCtorEq, ↓reduceIte, Int.reduceEq, Int.reduceLT, Int.reduceLE, Int.reduceNe, Int.reduceAdd, Int.reduceSub, Int.reduceMul, Int.reduceToNat, Nat.reduceShiftRight, Nat.reduceAnd, Nat.reduceBNe]
    refine callF hrp ⟨rfl, rfl, trivial⟩ rfl rfl ?_
    simp -implicitDefEqProofs only [push_cast, Nat.reduceBEq, Nat.reduceLT, Nat.reduceLeDiff, Nat.reduceAdd, Nat.reduceSub, Nat.reduceMul, Nat.reduceEqDiff, reduceCtorEq, ↓reduceIte, Int.reduceEq, Int.reduceLT, Int.reduceLE, Int.reduceNe, Int.reduceAdd, Int.reduceSub, Int.reduceMul, Int.reduceToNat, Nat.reduceShiftRight, Nat.reduceAnd, Nat.reduceBNe]
    refine callF hrs ⟨rfl, trivial⟩ rfl rfl ?_
    simp -implicitDefEqProofs only [push_cast, Nat.reduceBEq, Nat.reduceLT, Nat.reduceLeDiff, Nat.reduceAdd, Nat.reduceSub, Nat.reduceMul, Nat.reduceEqDiff, reduceCtorEq, ↓reduceIte, Int.reduceEq, Int.reduceLT, Int.reduceLE, Int.reduceNe, Int.reduceAdd, Int.reduceSub, Int.reduceMul, Int.reduceToNat, Nat.reduceShiftRight, Nat.reduceAnd, Nat.reduceBNe]
    refine callF hat ⟨rfl, rfl, trivial⟩ rfl rfl ?_
    simp -implicitDefEqProofs only [push_cast, Nat.reduceBEq, Nat.reduceLT, Nat.reduceLeDiff, Nat.reduceAdd, Nat.reduceSub, Nat.reduceMul, Nat.reduceEqDiff, reduceCtorEq, ↓reduceIte, Int.reduceEq, Int.reduceLT, Int.reduceLE, Int.reduceNe, Int.reduceAdd, Int.reduceSub, Int.reduceMul, Int.reduceToNat, Nat.reduceShiftRight, Nat.reduceAnd, Nat.reduceBNe]
    refine callF hrs2 ⟨rfl, trivial⟩ rfl rfl ?_
    simp -implicitDefEqProofs only [push_cast, Nat.reduceBEq, Nat.reduceLT, Nat.reduceLeDiff, Nat.reduceAdd, Nat.reduceSub, Nat.reduceMul, Nat.reduceEqDiff, reduceCtorEq, ↓reduceIte, Int.reduceEq, Int.reduceLT, Int.reduceLE, Int.reduceNe, Int.reduceAdd, Int.reduceSub, Int.reduceMul, Int.reduceToNat, Nat.reduceShiftRight, Nat.reduceAnd, Nat.reduceBNe]
    have hmod : ∀ z : Int, z ≤ 4096 → 0 ≤ k.tmod (max 1 z) ∧ k.tmod (max 1 z) ≤ 4096 := by
      intro z hz
      have h1 : 0 ≤ k.tmod (max 1 z) := Int.tmod_nonneg _ hk.1
      have h2 := Int.tmod_lt_of_pos k (show 0 < max 1 z by omega)
      omega
    have hm1 := hmod sz (by omega)
    have hm2 := hmod sm (by omega)
    refine ⟨by simp only [inR]; omega, by omega, by simp only [inR]; omega, by omega, ?_⟩
    refine loop_w (α := Nat) (fun q2 => ⟨[(83, I q2), (82, .agg [I i, I (k.tmod (max 1 sz)), I (k.tmod (max 1 sm))]), (43, I q), (42, .agg [IL c1, IL p1, IL c2, IL p1, IL c2, IL p2]), (16, I sm), (15, I sz), (14, B true), (13, I 0), (12, .ptr 1 0), (4, U16 k), (2, I i)], [boxD dc dw dof, .box [IL a, IL b]], []⟩) (fun q2 => q2 ≤ 3) (fun q2 => 3 - q2) 0 (wk_cut [83, 82, 43, 42, 16, 15, 14, 13, 12, 4, 2] 2 rfl ⟨rfl, rfl, rfl⟩ rfl) (by omega) ?_
    intro q2 hq2
    by_cases hq3 : q2 = 3
    · subst hq3
      simp -implicitDefEqProofs only [c4L0, U16, push_cast, Nat.reduceBEq, Nat.reduceLT, Nat.reduceLeDiff, Nat.reduceAdd, Nat.reduceSub, Nat.reduceMul, Nat.reduceEqDiff, reduceCtorEq, ↓reduceIte, Int.reduceEq, Int.reduceLT, Int.reduceLE, Int.reduceNe, Int.reduceAdd, Int.reduceSub, Int.reduceMul, Int.reduceToNat, Nat.reduceShiftRight, Nat.reduceAnd, Nat.reduceBNe]
      refine ⟨by simp only [inR]; omega, q + 1, by omega, by omega, wk_cut [43, 42, 4, 2] 1 rfl ⟨rfl, rfl, rfl⟩ rfl⟩
    obtain ⟨j, hgj, hij⟩ : ∃ j : Int, [I i, I (k.tmod (max 1 sz)), I (k.tmod (max 1 sm))][q2]? = some (I j) ∧ inR .i64 j := by
      have : q2 = 0 ∨ q2 = 1 ∨ q2 = 2 := by omega
      rcases this with rfl | rfl | rfl
      · exact ⟨_, rfl, hi⟩
      · exact ⟨_, rfl, by simp only [inR]; omega⟩
      · exact ⟨_, rfl, by simp only [inR]; omega⟩
    have hpj := hpart j
    have hsj := hspr j
    simp only at hpj hsj
    by_cases ha : 0 ≤ j
    · by_cases hb : j < sz
      · by_cases hm : j < sm
        · rw [decide_eq_true (show 0 ≤ j ∧ j < sz from ⟨ha, hb⟩)] at hpj
          rw [decide_eq_true (show 0 ≤ j ∧ j < prodL (pickL a b) from ⟨ha, by omega⟩)] at hsj
          simp only at hpj hsj
          simp -implicitDefEqProofs only [c4L0, U16, Nat.mul_one, hgj, ha, hb, hm, push_cast, Nat.reduceBEq, Nat.reduceLT, Nat.reduceLeDiff, Nat.reduceAdd, Nat.reduceSub, Nat.reduceMul, Nat.reduceEqDiff, reduceCtorEq, ↓reduceIte, Int.reduceEq, Int.reduceLT, Int.reduceLE, Int.reduceNe, Int.reduceAdd, Int.reduceSub, Int.reduceMul, Int.reduceToNat, Nat.reduceShiftRight, Nat.reduceAnd, Nat.reduceBNe]
          refine ⟨fun _ => ⟨by omega, ?_⟩, fun h => by omega⟩
          refine callF hpj ⟨rfl, rfl, rfl, trivial⟩ rfl rfl ?_
          simp -implicitDefEqProofs only [ha, hb, hm, push_cast, Nat.reduceBEq, Nat.reduceLT, Nat.reduceLeDiff, Nat.reduceAdd, Nat.reduceSub, Nat.reduceMul, Nat.reduceEqDiff, reduceCtorEq, ↓reduceIte, Int.reduceEq, Int.reduceLT, Int.reduceLE, Int.reduceNe, Int.reduceAdd, Int.reduceSub, Int.reduceMul, Int.reduceToNat, Nat.reduceShiftRight, Nat.reduceAnd, Nat.reduceBNe]
          refine callF (then_vc 0 true) ⟨rfl, rfl, trivial⟩ rfl rfl ?_
          simp -implicitDefEqProofs only [show thenI 0 true = 0 from rfl, push_cast, Nat.reduceBEq, Nat.reduceLT, Nat.reduceLeDiff, Nat.reduceAdd, Nat.reduceSub, Nat.reduceMul, Nat.reduceEqDiff, reduceCtorEq, ↓reduceIte, Int.reduceEq, Int.reduceLT, Int.reduceLE, Int.reduceNe, Int.reduceAdd, Int.reduceSub, Int.reduceMul, Int.reduceToNat, Nat.reduceShiftRight, Nat.reduceAnd, Nat.reduceBNe]
          refine callF (refpart_vc a b j sz _ hn (by omega) (by omega) hp (fun c h => (hc c h).1) (by omega) hsz (withinL_pick a (digs a j).1 b (digs_length _ _) hp (digs_within j (by omega) a (fun c h => (hc c h).1)))) ⟨rfl, rfl, rfl, trivial⟩ rfl rfl ?_
          simp -implicitDefEqProofs only [push_cast, Nat.reduceBEq, Nat.reduceLT, Nat.reduceLeDiff, Nat.reduceAdd, Nat.reduceSub, Nat.reduceMul, Nat.reduceEqDiff, reduceCtorEq, ↓reduceIte, Int.reduceEq, Int.reduceLT, Int.reduceLE, Int.reduceNe, Int.reduceAdd, Int.reduceSub, Int.reduceMul, Int.reduceToNat, Nat.reduceShiftRight, Nat.reduceAnd, Nat.reduceBNe]
          refine callF (lawnumber_vc (partN a b j) 0 0 (partN a b j)) ⟨rfl, rfl, rfl, rfl, trivial⟩ rfl rfl ?_
          have e : numberB (partN a b j) 0 0 (partN a b j) = true := by simp [numberB]
          simp -implicitDefEqProofs only [e, push_cast, Nat.reduceBEq, Nat.reduceLT, Nat.reduceLeDiff, Nat.reduceAdd, Nat.reduceSub, Nat.reduceMul, Nat.reduceEqDiff, reduceCtorEq, ↓reduceIte, Int.reduceEq, Int.reduceLT, Int.reduceLE, Int.reduceNe, Int.reduceAdd, Int.reduceSub, Int.reduceMul, Int.reduceToNat, Nat.reduceShiftRight, Nat.reduceAnd, Nat.reduceBNe]
          refine callF hsj ⟨rfl, rfl, rfl, trivial⟩ rfl rfl ?_
          simp -implicitDefEqProofs only [ha, hb, hm, push_cast, Nat.reduceBEq, Nat.reduceLT, Nat.reduceLeDiff, Nat.reduceAdd, Nat.reduceSub, Nat.reduceMul, Nat.reduceEqDiff, reduceCtorEq, ↓reduceIte, Int.reduceEq, Int.reduceLT, Int.reduceLE, Int.reduceNe, Int.reduceAdd, Int.reduceSub, Int.reduceMul, Int.reduceToNat, Nat.reduceShiftRight, Nat.reduceAnd, Nat.reduceBNe]
          refine callF (then_vc 0 true) ⟨rfl, rfl, trivial⟩ rfl rfl ?_
          simp -implicitDefEqProofs only [show thenI 0 true = 0 from rfl, push_cast, Nat.reduceBEq, Nat.reduceLT, Nat.reduceLeDiff, Nat.reduceAdd, Nat.reduceSub, Nat.reduceMul, Nat.reduceEqDiff, reduceCtorEq, ↓reduceIte, Int.reduceEq, Int.reduceLT, Int.reduceLE, Int.reduceNe, Int.reduceAdd, Int.reduceSub, Int.reduceMul, Int.reduceToNat, Nat.reduceShiftRight, Nat.reduceAnd, Nat.reduceBNe]
          refine callF (refspread_pc a b j sz hs hd) ⟨rfl, rfl, rfl, trivial⟩ rfl rfl ?_
          simp -implicitDefEqProofs only [push_cast, Nat.reduceBEq, Nat.reduceLT, Nat.reduceLeDiff, Nat.reduceAdd, Nat.reduceSub, Nat.reduceMul, Nat.reduceEqDiff, reduceCtorEq, ↓reduceIte, Int.reduceEq, Int.reduceLT, Int.reduceLE, Int.reduceNe, Int.reduceAdd, Int.reduceSub, Int.reduceMul, Int.reduceToNat, Nat.reduceShiftRight, Nat.reduceAnd, Nat.reduceBNe]
          refine callF (same_vc (spreadL a b j sz.toNat) (spreadL a b j sz.toNat) (by have := spreadL_length a b j sz.toNat; omega)) ⟨rfl, rfl, trivial⟩ rfl rfl ?_
          simp -implicitDefEqProofs only [push_cast, Nat.reduceBEq, Nat.reduceLT, Nat.reduceLeDiff, Nat.reduceAdd, Nat.reduceSub, Nat.reduceMul, Nat.reduceEqDiff, reduceCtorEq, ↓reduceIte, Int.reduceEq, Int.reduceLT, Int.reduceLE, Int.reduceNe, Int.reduceAdd, Int.reduceSub, Int.reduceMul, Int.reduceToNat, Nat.reduceShiftRight, Nat.reduceAnd, Nat.reduceBNe]
          refine ⟨by simp only [inR]; omega, q2 + 1, by omega, by omega, wk_cut [83, 82, 43, 42, 16, 15, 14, 13, 12, 4, 2] 2 rfl ⟨rfl, rfl, rfl⟩ rfl⟩
        · rw [decide_eq_true (show 0 ≤ j ∧ j < sz from ⟨ha, hb⟩)] at hpj
          rw [decide_eq_false (show ¬ (0 ≤ j ∧ j < prodL (pickL a b)) from fun h => hm (by omega))] at hsj
          simp only at hpj hsj
          simp -implicitDefEqProofs only [c4L0, U16, Nat.mul_one, hgj, ha, hb, hm, push_cast, Nat.reduceBEq, Nat.reduceLT, Nat.reduceLeDiff, Nat.reduceAdd, Nat.reduceSub, Nat.reduceMul, Nat.reduceEqDiff, reduceCtorEq, ↓reduceIte, Int.reduceEq, Int.reduceLT, Int.reduceLE, Int.reduceNe, Int.reduceAdd, Int.reduceSub, Int.reduceMul, Int.reduceToNat, Nat.reduceShiftRight, Nat.reduceAnd, Nat.reduceBNe]
          refine ⟨fun _ => ⟨by omega, ?_⟩, fun h => by omega⟩
          refine callF hpj ⟨rfl, rfl, rfl, trivial⟩ rfl rfl ?_
          simp -implicitDefEqProofs only [ha, hb, hm, push_cast, Nat.reduceBEq, Nat.reduceLT, Nat.reduceLeDiff, Nat.reduceAdd, Nat.reduceSub, Nat.reduceMul, Nat.reduceEqDiff, reduceCtorEq, ↓reduceIte, Int.reduceEq, Int.reduceLT, Int.reduceLE, Int.reduceNe, Int.reduceAdd, Int.reduceSub, Int.reduceMul, Int.reduceToNat, Nat.reduceShiftRight, Nat.reduceAnd, Nat.reduceBNe]
          refine callF (then_vc 0 true) ⟨rfl, rfl, trivial⟩ rfl rfl ?_
          simp -implicitDefEqProofs only [show thenI 0 true = 0 from rfl, push_cast, Nat.reduceBEq, Nat.reduceLT, Nat.reduceLeDiff, Nat.reduceAdd, Nat.reduceSub, Nat.reduceMul, Nat.reduceEqDiff, reduceCtorEq, ↓reduceIte, Int.reduceEq, Int.reduceLT, Int.reduceLE, Int.reduceNe, Int.reduceAdd, Int.reduceSub, Int.reduceMul, Int.reduceToNat, Nat.reduceShiftRight, Nat.reduceAnd, Nat.reduceBNe]
          refine callF (refpart_vc a b j sz _ hn (by omega) (by omega) hp (fun c h => (hc c h).1) (by omega) hsz (withinL_pick a (digs a j).1 b (digs_length _ _) hp (digs_within j (by omega) a (fun c h => (hc c h).1)))) ⟨rfl, rfl, rfl, trivial⟩ rfl rfl ?_
          simp -implicitDefEqProofs only [push_cast, Nat.reduceBEq, Nat.reduceLT, Nat.reduceLeDiff, Nat.reduceAdd, Nat.reduceSub, Nat.reduceMul, Nat.reduceEqDiff, reduceCtorEq, ↓reduceIte, Int.reduceEq, Int.reduceLT, Int.reduceLE, Int.reduceNe, Int.reduceAdd, Int.reduceSub, Int.reduceMul, Int.reduceToNat, Nat.reduceShiftRight, Nat.reduceAnd, Nat.reduceBNe]
          refine callF (lawnumber_vc (partN a b j) 0 0 (partN a b j)) ⟨rfl, rfl, rfl, rfl, trivial⟩ rfl rfl ?_
          have e : numberB (partN a b j) 0 0 (partN a b j) = true := by simp [numberB]
          simp -implicitDefEqProofs only [e, push_cast, Nat.reduceBEq, Nat.reduceLT, Nat.reduceLeDiff, Nat.reduceAdd, Nat.reduceSub, Nat.reduceMul, Nat.reduceEqDiff, reduceCtorEq, ↓reduceIte, Int.reduceEq, Int.reduceLT, Int.reduceLE, Int.reduceNe, Int.reduceAdd, Int.reduceSub, Int.reduceMul, Int.reduceToNat, Nat.reduceShiftRight, Nat.reduceAnd, Nat.reduceBNe]
          refine callF hsj ⟨rfl, rfl, rfl, trivial⟩ rfl rfl ?_
          simp -implicitDefEqProofs only [ha, hb, hm, push_cast, Nat.reduceBEq, Nat.reduceLT, Nat.reduceLeDiff, Nat.reduceAdd, Nat.reduceSub, Nat.reduceMul, Nat.reduceEqDiff, reduceCtorEq, ↓reduceIte, Int.reduceEq, Int.reduceLT, Int.reduceLE, Int.reduceNe, Int.reduceAdd, Int.reduceSub, Int.reduceMul, Int.reduceToNat, Nat.reduceShiftRight, Nat.reduceAnd, Nat.reduceBNe]
          refine callF (then_vc 0 false) ⟨rfl, rfl, trivial⟩ rfl rfl ?_
          simp -implicitDefEqProofs only [show thenI 0 false = 2 from rfl, push_cast, Nat.reduceBEq, Nat.reduceLT, Nat.reduceLeDiff, Nat.reduceAdd, Nat.reduceSub, Nat.reduceMul, Nat.reduceEqDiff, reduceCtorEq, ↓reduceIte, Int.reduceEq, Int.reduceLT, Int.reduceLE, Int.reduceNe, Int.reduceAdd, Int.reduceSub, Int.reduceMul, Int.reduceToNat, Nat.reduceShiftRight, Nat.reduceAnd, Nat.reduceBNe]
          refine ⟨by simp only [inR]; omega, q2 + 1, by omega, by omega, wk_cut [83, 82, 43, 42, 16, 15, 14, 13, 12, 4, 2] 2 rfl ⟨rfl, rfl, rfl⟩ rfl⟩
      · by_cases hm : j < sm
        · rw [decide_eq_false (show ¬ (0 ≤ j ∧ j < sz) from fun h => hb h.2)] at hpj
          rw [decide_eq_true (show 0 ≤ j ∧ j < prodL (pickL a b) from ⟨ha, by omega⟩)] at hsj
          simp only at hpj hsj
          simp -implicitDefEqProofs only [c4L0, U16, Nat.mul_one, hgj, ha, hb, hm, push_cast, Nat.reduceBEq, Nat.reduceLT, Nat.reduceLeDiff, Nat.reduceAdd, Nat.reduceSub, Nat.reduceMul, Nat.reduceEqDiff, reduceCtorEq, ↓reduceIte, Int.reduceEq, Int.reduceLT, Int.reduceLE, Int.reduceNe, Int.reduceAdd, Int.reduceSub, Int.reduceMul, Int.reduceToNat, Nat.reduceShiftRight, Nat.reduceAnd, Nat.reduceBNe]
          refine ⟨fun _ => ⟨by omega, ?_⟩, fun h => by omega⟩
          refine callF hpj ⟨rfl, rfl, rfl, trivial⟩ rfl rfl ?_
          simp -implicitDefEqProofs only [ha, hb, hm, push_cast, Nat.reduceBEq, Nat.reduceLT, Nat.reduceLeDiff, Nat.reduceAdd, Nat.reduceSub, Nat.reduceMul, Nat.reduceEqDiff, reduceCtorEq, ↓reduceIte, Int.reduceEq, Int.reduceLT, Int.reduceLE, Int.reduceNe, Int.reduceAdd, Int.reduceSub, Int.reduceMul, Int.reduceToNat, Nat.reduceShiftRight, Nat.reduceAnd, Nat.reduceBNe]
          refine callF (then_vc 0 false) ⟨rfl, rfl, trivial⟩ rfl rfl ?_
          simp -implicitDefEqProofs only [show thenI 0 false = 2 from rfl, push_cast, Nat.reduceBEq, Nat.reduceLT, Nat.reduceLeDiff, Nat.reduceAdd, Nat.reduceSub, Nat.reduceMul, Nat.reduceEqDiff, reduceCtorEq, ↓reduceIte, Int.reduceEq, Int.reduceLT, Int.reduceLE, Int.reduceNe, Int.reduceAdd, Int.reduceSub, Int.reduceMul, Int.reduceToNat, Nat.reduceShiftRight, Nat.reduceAnd, Nat.reduceBNe]
          refine callF (lawnumber_vc 0 2 2 0) ⟨rfl, rfl, rfl, rfl, trivial⟩ rfl rfl ?_
          have e : numberB 0 2 2 0 = true := by simp [numberB]
          simp -implicitDefEqProofs only [e, push_cast, Nat.reduceBEq, Nat.reduceLT, Nat.reduceLeDiff, Nat.reduceAdd, Nat.reduceSub, Nat.reduceMul, Nat.reduceEqDiff, reduceCtorEq, ↓reduceIte, Int.reduceEq, Int.reduceLT, Int.reduceLE, Int.reduceNe, Int.reduceAdd, Int.reduceSub, Int.reduceMul, Int.reduceToNat, Nat.reduceShiftRight, Nat.reduceAnd, Nat.reduceBNe]
          refine callF hsj ⟨rfl, rfl, rfl, trivial⟩ rfl rfl ?_
          simp -implicitDefEqProofs only [ha, hb, hm, push_cast, Nat.reduceBEq, Nat.reduceLT, Nat.reduceLeDiff, Nat.reduceAdd, Nat.reduceSub, Nat.reduceMul, Nat.reduceEqDiff, reduceCtorEq, ↓reduceIte, Int.reduceEq, Int.reduceLT, Int.reduceLE, Int.reduceNe, Int.reduceAdd, Int.reduceSub, Int.reduceMul, Int.reduceToNat, Nat.reduceShiftRight, Nat.reduceAnd, Nat.reduceBNe]
          refine callF (then_vc 0 true) ⟨rfl, rfl, trivial⟩ rfl rfl ?_
          simp -implicitDefEqProofs only [show thenI 0 true = 0 from rfl, push_cast, Nat.reduceBEq, Nat.reduceLT, Nat.reduceLeDiff, Nat.reduceAdd, Nat.reduceSub, Nat.reduceMul, Nat.reduceEqDiff, reduceCtorEq, ↓reduceIte, Int.reduceEq, Int.reduceLT, Int.reduceLE, Int.reduceNe, Int.reduceAdd, Int.reduceSub, Int.reduceMul, Int.reduceToNat, Nat.reduceShiftRight, Nat.reduceAnd, Nat.reduceBNe]
          refine callF (refspread_pc a b j sz hs hd) ⟨rfl, rfl, rfl, trivial⟩ rfl rfl ?_
          simp -implicitDefEqProofs only [push_cast, Nat.reduceBEq, Nat.reduceLT, Nat.reduceLeDiff, Nat.reduceAdd, Nat.reduceSub, Nat.reduceMul, Nat.reduceEqDiff, reduceCtorEq, ↓reduceIte, Int.reduceEq, Int.reduceLT, Int.reduceLE, Int.reduceNe, Int.reduceAdd, Int.reduceSub, Int.reduceMul, Int.reduceToNat, Nat.reduceShiftRight, Nat.reduceAnd, Nat.reduceBNe]
          refine callF (same_vc (spreadL a b j sz.toNat) (spreadL a b j sz.toNat) (by have := spreadL_length a b j sz.toNat; omega)) ⟨rfl, rfl, trivial⟩ rfl rfl ?_
          simp -implicitDefEqProofs only [push_cast, Nat.reduceBEq, Nat.reduceLT, Nat.reduceLeDiff, Nat.reduceAdd, Nat.reduceSub, Nat.reduceMul, Nat.reduceEqDiff, reduceCtorEq, ↓reduceIte, Int.reduceEq, Int.reduceLT, Int.reduceLE, Int.reduceNe, Int.reduceAdd, Int.reduceSub, Int.reduceMul, Int.reduceToNat, Nat.reduceShiftRight, Nat.reduceAnd, Nat.reduceBNe]
          refine ⟨by simp only [inR]; omega, q2 + 1, by omega, by omega, wk_cut [83, 82, 43, 42, 16, 15, 14, 13, 12, 4, 2] 2 rfl ⟨rfl, rfl, rfl⟩ rfl⟩
        · rw [decide_eq_false (show ¬ (0 ≤ j ∧ j < sz) from fun h => hb h.2)] at hpj
          rw [decide_eq_false (show ¬ (0 ≤ j ∧ j < prodL (pickL a b)) from fun h => hm (by omega))] at hsj
          simp only at hpj hsj
          simp -implicitDefEqProofs only [c4L0, U16, Nat.mul_one, hgj, ha, hb, hm, push_cast, Nat.reduceBEq, Nat.reduceLT, Nat.reduceLeDiff, Nat.reduceAdd, Nat.reduceSub, Nat.reduceMul, Nat.reduceEqDiff, reduceCtorEq, ↓reduceIte, Int.reduceEq, Int.reduceLT, Int.reduceLE, Int.reduceNe, Int.reduceAdd, Int.reduceSub, Int.reduceMul, Int.reduceToNat, Nat.reduceShiftRight, Nat.reduceAnd, Nat.reduceBNe]
          refine ⟨fun _ => ⟨by omega, ?_⟩, fun h => by omega⟩
          refine callF hpj ⟨rfl, rfl, rfl, trivial⟩ rfl rfl ?_
          simp -implicitDefEqProofs only [ha, hb, hm, push_cast, Nat.reduceBEq, Nat.reduceLT, Nat.reduceLeDiff, Nat.reduceAdd, Nat.reduceSub, Nat.reduceMul, Nat.reduceEqDiff, reduceCtorEq, ↓reduceIte, Int.reduceEq, Int.reduceLT, Int.reduceLE, Int.reduceNe, Int.reduceAdd, Int.reduceSub, Int.reduceMul, Int.reduceToNat, Nat.reduceShiftRight, Nat.reduceAnd, Nat.reduceBNe]
          refine callF (then_vc 0 false) ⟨rfl, rfl, trivial⟩ rfl rfl ?_
          simp -implicitDefEqProofs only [show thenI 0 false = 2 from rfl, push_cast, Nat.reduceBEq, Nat.reduceLT, Nat.reduceLeDiff, Nat.reduceAdd, Nat.reduceSub, Nat.reduceMul, Nat.reduceEqDiff, reduceCtorEq, ↓reduceIte, Int.reduceEq, Int.reduceLT, Int.reduceLE, Int.reduceNe, Int.reduceAdd, Int.reduceSub, Int.reduceMul, Int.reduceToNat, Nat.reduceShiftRight, Nat.reduceAnd, Nat.reduceBNe]
          refine callF (lawnumber_vc 0 2 2 0) ⟨rfl, rfl, rfl, rfl, trivial⟩ rfl rfl ?_
          have e : numberB 0 2 2 0 = true := by simp [numberB]
          simp -implicitDefEqProofs only [e, push_cast, Nat.reduceBEq, Nat.reduceLT, Nat.reduceLeDiff, Nat.reduceAdd, Nat.reduceSub, Nat.reduceMul, Nat.reduceEqDiff, reduceCtorEq, ↓reduceIte, Int.reduceEq, Int.reduceLT, Int.reduceLE, Int.reduceNe, Int.reduceAdd, Int.reduceSub, Int.reduceMul, Int.reduceToNat, Nat.reduceShiftRight, Nat.reduceAnd, Nat.reduceBNe]
          refine callF hsj ⟨rfl, rfl, rfl, trivial⟩ rfl rfl ?_
          simp -implicitDefEqProofs only [ha, hb, hm, push_cast, Nat.reduceBEq, Nat.reduceLT, Nat.reduceLeDiff, Nat.reduceAdd, Nat.reduceSub, Nat.reduceMul, Nat.reduceEqDiff, reduceCtorEq, ↓reduceIte, Int.reduceEq, Int.reduceLT, Int.reduceLE, Int.reduceNe, Int.reduceAdd, Int.reduceSub, Int.reduceMul, Int.reduceToNat, Nat.reduceShiftRight, Nat.reduceAnd, Nat.reduceBNe]
          refine callF (then_vc 0 false) ⟨rfl, rfl, trivial⟩ rfl rfl ?_
          simp -implicitDefEqProofs only [show thenI 0 false = 2 from rfl, push_cast, Nat.reduceBEq, Nat.reduceLT, Nat.reduceLeDiff, Nat.reduceAdd, Nat.reduceSub, Nat.reduceMul, Nat.reduceEqDiff, reduceCtorEq, ↓reduceIte, Int.reduceEq, Int.reduceLT, Int.reduceLE, Int.reduceNe, Int.reduceAdd, Int.reduceSub, Int.reduceMul, Int.reduceToNat, Nat.reduceShiftRight, Nat.reduceAnd, Nat.reduceBNe]
          refine ⟨by simp only [inR]; omega, q2 + 1, by omega, by omega, wk_cut [83, 82, 43, 42, 16, 15, 14, 13, 12, 4, 2] 2 rfl ⟨rfl, rfl, rfl⟩ rfl⟩
    · rw [decide_eq_false (show ¬ (0 ≤ j ∧ j < sz) from fun h => ha h.1)] at hpj
      rw [decide_eq_false (show ¬ (0 ≤ j ∧ j < prodL (pickL a b)) from fun h => ha h.1)] at hsj
      simp only at hpj hsj
      simp -implicitDefEqProofs only [c4L0, U16, Nat.mul_one, hgj, ha, push_cast, Nat.reduceBEq, Nat.reduceLT, Nat.reduceLeDiff, Nat.reduceAdd, Nat.reduceSub, Nat.reduceMul, Nat.reduceEqDiff, reduceCtorEq, ↓reduceIte, Int.reduceEq, Int.reduceLT, Int.reduceLE, Int.reduceNe, Int.reduceAdd, Int.reduceSub, Int.reduceMul, Int.reduceToNat, Nat.reduceShiftRight, Nat.reduceAnd, Nat.reduceBNe]
      refine ⟨fun _ => ⟨by omega, ?_⟩, fun h => by omega⟩
      refine callF hpj ⟨rfl, rfl, rfl, trivial⟩ rfl rfl ?_
      simp -implicitDefEqProofs only [ha, push_cast, Nat.reduceBEq, Nat.reduceLT, Nat.reduceLeDiff, Nat.reduceAdd, Nat.reduceSub, Nat.reduceMul, Nat.reduceEqDiff, reduceCtorEq, ↓reduceIte, Int.reduceEq, Int.reduceLT, Int.reduceLE, Int.reduceNe, Int.reduceAdd, Int.reduceSub, Int.reduceMul, Int.reduceToNat, Nat.reduceShiftRight, Nat.reduceAnd, Nat.reduceBNe]
      refine callF (then_vc 0 false) ⟨rfl, rfl, trivial⟩ rfl rfl ?_
      simp -implicitDefEqProofs only [show thenI 0 false = 2 from rfl, push_cast, Nat.reduceBEq, Nat.reduceLT, Nat.reduceLeDiff, Nat.reduceAdd, Nat.reduceSub, Nat.reduceMul, Nat.reduceEqDiff, reduceCtorEq, ↓reduceIte, Int.reduceEq, Int.reduceLT, Int.reduceLE, Int.reduceNe, Int.reduceAdd, Int.reduceSub, Int.reduceMul, Int.reduceToNat, Nat.reduceShiftRight, Nat.reduceAnd, Nat.reduceBNe]
      refine callF (lawnumber_vc 0 2 2 0) ⟨rfl, rfl, rfl, rfl, trivial⟩ rfl rfl ?_
      have e : numberB 0 2 2 0 = true := by simp [numberB]
      simp -implicitDefEqProofs only [e, push_cast, Nat.reduceBEq, Nat.reduceLT, Nat.reduceLeDiff, Nat.reduceAdd, Nat.reduceSub, Nat.reduceMul, Nat.reduceEqDiff, reduceCtorEq, ↓reduceIte, Int.reduceEq, Int.reduceLT, Int.reduceLE, Int.reduceNe, Int.reduceAdd, Int.reduceSub, Int.reduceMul, Int.reduceToNat, Nat.reduceShiftRight, Nat.reduceAnd, Nat.reduceBNe]
      refine callF hsj ⟨rfl, rfl, rfl, trivial⟩ rfl rfl ?_
      simp -implicitDefEqProofs only [ha, push_cast, Nat.reduceBEq, Nat.reduceLT, Nat.reduceLeDiff, Nat.reduceAdd, Nat.reduceSub, Nat.reduceMul, Nat.reduceEqDiff, reduceCtorEq, ↓reduceIte, Int.reduceEq, Int.reduceLT, Int.reduceLE, Int.reduceNe, Int.reduceAdd, Int.reduceSub, Int.reduceMul, Int.reduceToNat, Nat.reduceShiftRight, Nat.reduceAnd, Nat.reduceBNe]
      refine callF (then_vc 0 false) ⟨rfl, rfl, trivial⟩ rfl rfl ?_
      simp -implicitDefEqProofs only [show thenI 0 false = 2 from rfl, push_cast, Nat.reduceBEq, Nat.reduceLT, Nat.reduceLeDiff, Nat.reduceAdd, Nat.reduceSub, Nat.reduceMul, Nat.reduceEqDiff, reduceCtorEq, ↓reduceIte, Int.reduceEq, Int.reduceLT, Int.reduceLE, Int.reduceNe, Int.reduceAdd, Int.reduceSub, Int.reduceMul, Int.reduceToNat, Nat.reduceShiftRight, Nat.reduceAnd, Nat.reduceBNe]
      refine ⟨by simp only [inR]; omega, q2 + 1, by omega, by omega, wk_cut [83, 82, 43, 42, 16, 15, 14, 13, 12, 4, 2] 2 rfl ⟨rfl, rfl, rfl⟩ rfl⟩
end Go.Proofs.Ytcplbmlebogffaa

namespace Go.Proofs.Ytcplbmlebogffaa
open Go GoV
set_option maxHeartbeats 4000000
set_option maxRecDepth 10000

theorem distinct_congr (n : Int) (inc : Bool) : ∀ (l : List Int) (S T : List Bool) (last : Int), (n ≤ S.length ∧ n ≤ T.length) → (∀ j : Nat, (j : Int) < n → S.getD j false = T.getD j false) → distinctL n inc S last l = distinctL n inc T last l
  | [], _, _, _, _, _ => rfl
  | k :: r, S, T, last, hl, he => by
    simp only [distinctL]
    by_cases hk : k < 0 ∨ n ≤ k
    · rw [if_pos (.inl (.inl hk)), if_pos (.inl (.inl hk))]
    · have e := he k.toNat (by omega)
      rw [e]
      have ih := distinct_congr n inc r (S.set k.toNat true) (T.set k.toNat true) k (by simpa using hl) (fun j hj => by
        by_cases e2 : j = k.toNat
        · subst e2
          have h1 : k.toNat < S.length := by omega
          have h2 : k.toNat < T.length := by omega
          simp [h1, h2]
        · have := he j hj
          simp only [List.getD_eq_getElem?_getD] at this ⊢
          rw [List.getElem?_set_ne (fun e' => e2 e'.symm), List.getElem?_set_ne (fun e' => e2 e'.symm)]
          exact this)
      rw [ih]

/-- what the two lists give -/
theorem perms_of (a b : List Int) (ha : a.length ≤ 14) (hb : b.length ≤ 14) : ∃ no sz rt, PC Try.prog 13 [IL a] (I no) ∧
    ((sizeS a = none ∧ no = 20 ∧ sz = 0 ∧ rt = false) ∨
     (sizeS a = some sz ∧ no = 0 ∧ PC Try.prog 16 [IL a] (I sz) ∧ PC Try.prog 35 [IL b, I (a.length : Int)] (B rt) ∧ (1 ≤ sz ∧ sz ≤ 4096) ∧ (decide (b.length = a.length) && distinctL a.length false F12 (-1) b) = rt)) := by
  have hfi := first_vc a
  cases hs : sizeS a with
  | none => rw [hs] at hfi; exact ⟨20, 0, false, hfi, .inl ⟨rfl, rfl, rfl, rfl⟩⟩
  | some n =>
    rw [hs] at hfi
    obtain ⟨⟨hl, hc, _⟩, hn, h1⟩ := okC_of hs
    have hpe := refperm_vc b a.length (by omega)
    have e1 : distinctL a.length false (zerB ((a.length : Int).toNat)) (-1) b = distinctL a.length false F12 (-1) b := by
      refine distinct_congr _ _ b _ _ _ ⟨by simp [zerB], by simp [F12]; omega⟩ (fun j hj => ?_)
      rw [F12_get]
      unfold zerB
      simp only [List.getD_eq_getElem?_getD, List.getElem?_replicate]
      split <;> rfl
    have e2 : decide ((b.length : Int) = (a.length : Int)) = decide (b.length = a.length) := by
      by_cases h : b.length = a.length
      · rw [decide_eq_true h, decide_eq_true (by omega)]
      · rw [decide_eq_false h, decide_eq_false (by omega)]
    rw [e1, e2] at hpe
    exact ⟨0, n, _, hfi, .inr ⟨rfl, rfl, refsize_vc a n hn (by omega), hpe, h1, rfl⟩⟩

theorem law5_pc (cards p : List Int) (i : Int) (dc : List Int) (dw : Int) (dof : List Int) (k : Int) (hi : inR .i64 i) (hk : 0 ≤ k ∧ k ≤ 65535) (hdc : ∀ x ∈ dc, 0 ≤ x ∧ x ≤ 255) (hdo : dof.length ≤ 9223372036854775807 ∧ ∀ x ∈ dof, 0 ≤ x ∧ x ≤ 255) :
    PC Try.prog 5 [IL cards, IL p, I i, DA dc dw dof, .dat (.int .u16) k] (B true) := by
  refine pc_fn hmix h5 rfl ?_
  simp -implicitDefEqProofs only [c5, push_cast, Nat.reduceBEq, Nat.reduceLT, Nat.reduceLeDiff, Nat.reduceAdd, Nat.reduceSub, Nat.reduceMul, Nat.reduceEqDiff, reduceCtorEq, ↓reduceIte, Int.reduceEq, Int.reduceLT, Int.reduceLE, Int.reduceNe, Int.reduceAdd, Int.reduceSub, Int.reduceMul, Int.reduceToNat, Nat.reduceShiftRight, Nat.reduceAnd, Nat.reduceBNe]
  refine callF works_pc trivial rfl rfl ?_
  simp -implicitDefEqProofs only [push_cast, Nat.reduceBEq, Nat.reduceLT, Nat.reduceLeDiff, Nat.reduceAdd, Nat.reduceSub, Nat.reduceMul, Nat.reduceEqDiff, reduceCtorEq, ↓reduceIte, Int.reduceEq, Int.reduceLT, Int.reduceLE, Int.reduceNe, Int.reduceAdd, Int.reduceSub, Int.reduceMul, Int.reduceToNat, Nat.reduceShiftRight, Nat.reduceAnd, Nat.reduceBNe]
  refine ppF (cut_vc cards) ⟨rfl, trivial⟩ rfl rfl ?_
  simp -implicitDefEqProofs only [push_cast, Nat.reduceBEq, Nat.reduceLT, Nat.reduceLeDiff, Nat.reduceAdd, Nat.reduceSub, Nat.reduceMul, Nat.reduceEqDiff, reduceCtorEq, ↓reduceIte, Int.reduceEq, Int.reduceLT, Int.reduceLE, Int.reduceNe, Int.reduceAdd, Int.reduceSub, Int.reduceMul, Int.reduceToNat, Nat.reduceShiftRight, Nat.reduceAnd, Nat.reduceBNe]
  refine ppF (cut_vc p) ⟨rfl, trivial⟩ rfl rfl ?_
  simp -implicitDefEqProofs only [push_cast, Nat.reduceBEq, Nat.reduceLT, Nat.reduceLeDiff, Nat.reduceAdd, Nat.reduceSub, Nat.reduceMul, Nat.reduceEqDiff, reduceCtorEq, ↓reduceIte, Int.reduceEq, Int.reduceLT, Int.reduceLE, Int.reduceNe, Int.reduceAdd, Int.reduceSub, Int.reduceMul, Int.reduceToNat, Nat.reduceShiftRight, Nat.reduceAnd, Nat.reduceBNe]
  refine ppF (cards_pc dc dw dof hdc) ⟨⟨rfl, ⟨rfl, rfl⟩, ⟨rfl, rfl⟩, ⟨rfl, rfl⟩, rfl⟩, trivial⟩ rfl rfl ?_
  simp -implicitDefEqProofs only [push_cast, Nat.reduceBEq, Nat.reduceLT, Nat.reduceLeDiff, Nat.reduceAdd, Nat.reduceSub, Nat.reduceMul, Nat.reduceEqDiff, reduceCtorEq, ↓reduceIte, Int.reduceEq, Int.reduceLT, Int.reduceLE, Int.reduceNe, Int.reduceAdd, Int.reduceSub, Int.reduceMul, Int.reduceToNat, Nat.reduceShiftRight, Nat.reduceAnd, Nat.reduceBNe]
  refine ppF (cut_vc p) ⟨rfl, trivial⟩ rfl rfl ?_
  simp -implicitDefEqProofs only [push_cast, Nat.reduceBEq, Nat.reduceLT, Nat.reduceLeDiff, Nat.reduceAdd, Nat.reduceSub, Nat.reduceMul, Nat.reduceEqDiff, reduceCtorEq, ↓reduceIte, Int.reduceEq, Int.reduceLT, Int.reduceLE, Int.reduceNe, Int.reduceAdd, Int.reduceSub, Int.reduceMul, Int.reduceToNat, Nat.reduceShiftRight, Nat.reduceAnd, Nat.reduceBNe]
  refine ppF (cards_pc dc dw dof hdc) ⟨⟨rfl, ⟨rfl, rfl⟩, ⟨rfl, rfl⟩, ⟨rfl, rfl⟩, rfl⟩, trivial⟩ rfl rfl ?_
  simp -implicitDefEqProofs only [push_cast, Nat.reduceBEq, Nat.reduceLT, Nat.reduceLeDiff, Nat.reduceAdd, Nat.reduceSub, Nat.reduceMul, Nat.reduceEqDiff, reduceCtorEq, ↓reduceIte, Int.reduceEq, Int.reduceLT, Int.reduceLE, Int.reduceNe, Int.reduceAdd, Int.reduceSub, Int.reduceMul, Int.reduceToNat, Nat.reduceShiftRight, Nat.reduceAnd, Nat.reduceBNe]
  refine ppF (draftperm_pc dc dw dof hdc hdo) ⟨⟨rfl, ⟨rfl, rfl⟩, ⟨rfl, rfl⟩, ⟨rfl, rfl⟩, rfl⟩, trivial⟩ rfl rfl ?_
  simp -implicitDefEqProofs only [push_cast, Nat.reduceBEq, Nat.reduceLT, Nat.reduceLeDiff, Nat.reduceAdd, Nat.reduceSub, Nat.reduceMul, Nat.reduceEqDiff, reduceCtorEq, ↓reduceIte, Int.reduceEq, Int.reduceLT, Int.reduceLE, Int.reduceNe, Int.reduceAdd, Int.reduceSub, Int.reduceMul, Int.reduceToNat, Nat.reduceShiftRight, Nat.reduceAnd, Nat.reduceBNe]
  obtain ⟨c1, hc1⟩ : ∃ c1, List.take 14 cards = c1 := ⟨_, rfl⟩
  obtain ⟨c2, hc2⟩ : ∃ c2, cardsL dc = c2 := ⟨_, rfl⟩
  obtain ⟨p1, hp1⟩ : ∃ p1, List.take 14 p = p1 := ⟨_, rfl⟩
  obtain ⟨p2, hp2⟩ : ∃ p2, permD dof c2.length = p2 := ⟨_, rfl⟩
  have hl1 : c1.length ≤ 14 := by rw [← hc1, List.length_take]; omega
  have hl2 : c2.length ≤ 5 := by rw [← hc2]; simp [cardsL]; omega
  have hl3 : p1.length ≤ 14 := by rw [← hp1, List.length_take]; omega
  have hl4 : p2.length ≤ 14 := by rw [← hp2]; have := permD_length dof hdo.2 c2.length; omega
  rw [hc1, hc2, hp1, hp2]
  refine loop_w (α := Nat) (fun q => ⟨[(39, I q), (38, .agg [IL c1, IL p1, IL c2, IL p1, IL c2, IL p2]), (4, U16 k), (2, I i)], [boxD dc dw dof], []⟩) (fun q => q ≤ 3) (fun q => 3 - q) 0 (wk_cut [39, 38, 4, 2] 1 rfl ⟨rfl, rfl, rfl⟩ rfl) (by omega) ?_
  intro q hq
  by_cases hq2 : q = 3
  · subst hq2
    simp -implicitDefEqProofs only [c5L1, push_cast, Nat.reduceBEq, Nat.reduceLT, Nat.reduceLeDiff, Nat.reduceAdd, Nat.reduceSub, Nat.reduceMul, Nat.reduceEqDiff, reduceCtorEq, ↓reduceIte, Int.reduceEq, Int.reduceLT, Int.reduceLE, Int.reduceNe, Int.reduceAdd, Int.reduceSub, Int.reduceMul, Int.reduceToNat, Nat.reduceShiftRight, Nat.reduceAnd, Nat.reduceBNe]
    exact finC rfl rfl
  obtain ⟨a, b, hget, hget2, hla, hlb⟩ : ∃ a b : List Int, decide (q * 2 ≤ 4) = true ∧ List.take 2 (List.drop (q * 2) [IL c1, IL p1, IL c2, IL p1, IL c2, IL p2]) = [IL a, IL b] ∧ a.length ≤ 14 ∧ b.length ≤ 14 := by
    have : q = 0 ∨ q = 1 ∨ q = 2 := by omega
    rcases this with rfl | rfl | rfl
    · exact ⟨c1, p1, rfl, rfl, hl1, hl3⟩
    · exact ⟨c2, p1, rfl, rfl, by omega, hl3⟩
    · exact ⟨c2, p2, rfl, rfl, by omega, hl4⟩
  obtain ⟨no, sz, rt, hfi, hcase⟩ := perms_of a b hla hlb
  have hper := fun j => permute_pc a b j (by omega)
  unfold permS at hper
  simp -implicitDefEqProofs only [c5L1, U16, hget, hget2, push_cast, Nat.reduceBEq, Nat.reduceLT, Nat.reduceLeDiff, Nat.reduceAdd, Nat.reduceSub, Nat.reduceMul, Nat.reduceEqDiff, reduceCtorEq, ↓reduceIte, Int.reduceEq, Int.reduceLT, Int.reduceLE, Int.reduceNe, Int.reduceAdd, Int.reduceSub, Int.reduceMul, Int.reduceToNat, Nat.reduceShiftRight, Nat.reduceAnd, Nat.reduceBNe]
  refine ⟨fun _ => ⟨by omega, ?_⟩, fun h => by omega⟩
  refine callF hfi ⟨rfl, trivial⟩ rfl rfl ?_
  simp -implicitDefEqProofs only [push_cast, Nat.reduceBEq, Nat.reduceLT, Nat.reduceLeDiff, Nat.reduceAdd, Nat.reduceSub, Nat.reduceMul, Nat.reduceEqDiff, reduceCtorEq, ↓reduceIte, Int.reduceEq, Int.reduceLT, Int.reduceLE, Int.reduceNe, Int.reduceAdd, Int.reduceSub, Int.reduceMul, Int.reduceToNat, Nat.reduceShiftRight, Nat.reduceAnd, Nat.reduceBNe]
  rcases hcase with ⟨hs, rfl, rfl, rfl⟩ | ⟨hs, rfl, hrs, hrp, hsz1, hrt⟩
  · rw [hs] at hper
    simp only at hper
    simp -implicitDefEqProofs only [push_cast, Nat.reduceBEq, Nat.reduceLT, Nat.reduceLeDiff, Nat.reduceAdd, Nat.reduceSub, Nat.reduceMul, Nat.reduceEqDiff, reduceCtorEq, ↓reduceIte, Int.reduceEq, Int.reduceLT, Int.reduceLE, Int.reduceNe, Int.reduceAdd, Int.reduceSub, Int.reduceMul, Int.reduceToNat, Nat.reduceShiftRight, Nat.reduceAnd, Nat.reduceBNe]
    have hmod : 0 ≤ k.tmod (max 1 0) ∧ k.tmod (max 1 0) ≤ 4096 := by
      have h1 : 0 ≤ k.tmod (max 1 0) := Int.tmod_nonneg _ hk.1
      have h2 := Int.tmod_lt_of_pos k (show 0 < max 1 0 by omega)
      omega
    refine ⟨by simp only [inR]; omega, by omega, ?_⟩
    refine loop_w (α := Nat) (fun q2 => ⟨[(57, I q2), (56, .agg [I i, I (k.tmod (max 1 0))]), (39, I q), (38, .agg [IL c1, IL p1, IL c2, IL p1, IL c2, IL p2]), (14, I 0), (13, I 20), (12, .ptr 1 0), (4, U16 k), (2, I i)], [boxD dc dw dof, .box [IL a, IL b]], []⟩) (fun q2 => q2 ≤ 2) (fun q2 => 2 - q2) 0 (wk_cut [57, 56, 39, 38, 14, 13, 12, 4, 2] 2 rfl ⟨rfl, rfl, rfl⟩ rfl) (by omega) ?_
    intro q2 hq2
    by_cases hq3 : q2 = 2
    · subst hq3
      simp -implicitDefEqProofs only [c5L0, U16, push_cast, Nat.reduceBEq, Nat.reduceLT, Nat.reduceLeDiff, Nat.reduceAdd, Nat.reduceSub, Nat.reduceMul, Nat.reduceEqDiff, reduceCtorEq, ↓reduceIte, Int.reduceEq, Int.reduceLT, Int.reduceLE, Int.reduceNe, Int.reduceAdd, Int.reduceSub, Int.reduceMul, Int.reduceToNat, Nat.reduceShiftRight, Nat.reduceAnd, Nat.reduceBNe]
      refine ⟨by simp only [inR]; omega, q + 1, by omega, by omega, wk_cut [39, 38, 4, 2] 1 rfl ⟨rfl, rfl, rfl⟩ rfl⟩
    obtain ⟨j, hgj, hij⟩ : ∃ j : Int, [I i, I (k.tmod (max 1 0))][q2]? = some (I j) ∧ inR .i64 j := by
      have : q2 = 0 ∨ q2 = 1 := by omega
      rcases this with rfl | rfl
      · exact ⟨_, rfl, hi⟩
      · exact ⟨_, rfl, by simp only [inR]; omega⟩
    have hpj := hper j
    simp -implicitDefEqProofs only [c5L0, U16, Nat.mul_one, hgj, push_cast, Nat.reduceBEq, Nat.reduceLT, Nat.reduceLeDiff, Nat.reduceAdd, Nat.reduceSub, Nat.reduceMul, Nat.reduceEqDiff, reduceCtorEq, ↓reduceIte, Int.reduceEq, Int.reduceLT, Int.reduceLE, Int.reduceNe, Int.reduceAdd, Int.reduceSub, Int.reduceMul, Int.reduceToNat, Nat.reduceShiftRight, Nat.reduceAnd, Nat.reduceBNe]
    refine ⟨fun _ => ⟨by omega, ?_⟩, fun h => by omega⟩
    refine callF hpj ⟨rfl, rfl, rfl, trivial⟩ rfl rfl ?_
    simp -implicitDefEqProofs only [push_cast, Nat.reduceBEq, Nat.reduceLT, Nat.reduceLeDiff, Nat.reduceAdd, Nat.reduceSub, Nat.reduceMul, Nat.reduceEqDiff, reduceCtorEq, ↓reduceIte, Int.reduceEq, Int.reduceLT, Int.reduceLE, Int.reduceNe, Int.reduceAdd, Int.reduceSub, Int.reduceMul, Int.reduceToNat, Nat.reduceShiftRight, Nat.reduceAnd, Nat.reduceBNe]
    refine callF (then_vc 20 false) ⟨rfl, rfl, trivial⟩ rfl rfl ?_
    simp -implicitDefEqProofs only [show thenI 20 false = 20 from rfl, push_cast, Nat.reduceBEq, Nat.reduceLT, Nat.reduceLeDiff, Nat.reduceAdd, Nat.reduceSub, Nat.reduceMul, Nat.reduceEqDiff, reduceCtorEq, ↓reduceIte, Int.reduceEq, Int.reduceLT, Int.reduceLE, Int.reduceNe, Int.reduceAdd, Int.reduceSub, Int.reduceMul, Int.reduceToNat, Nat.reduceShiftRight, Nat.reduceAnd, Nat.reduceBNe]
    refine callF (lawnumber_vc 0 20 20 0) ⟨rfl, rfl, rfl, rfl, trivial⟩ rfl rfl ?_
    have e : numberB 0 20 20 0 = true := by simp [numberB]
    simp -implicitDefEqProofs only [e, push_cast, Nat.reduceBEq, Nat.reduceLT, Nat.reduceLeDiff, Nat.reduceAdd, Nat.reduceSub, Nat.reduceMul, Nat.reduceEqDiff, reduceCtorEq, ↓reduceIte, Int.reduceEq, Int.reduceLT, Int.reduceLE, Int.reduceNe, Int.reduceAdd, Int.reduceSub, Int.reduceMul, Int.reduceToNat, Nat.reduceShiftRight, Nat.reduceAnd, Nat.reduceBNe]
    refine ⟨by simp only [inR]; omega, q2 + 1, by omega, by omega, wk_cut [57, 56, 39, 38, 14, 13, 12, 4, 2] 2 rfl ⟨rfl, rfl, rfl⟩ rfl⟩
  obtain ⟨⟨hl, hc, _⟩, hn, _⟩ := okC_of hs
  rw [hs] at hper
  cases rt with
  | false =>
    simp -implicitDefEqProofs only [push_cast, Nat.reduceBEq, Nat.reduceLT, Nat.reduceLeDiff, Nat.reduceAdd, Nat.reduceSub, Nat.reduceMul, Nat.reduceEqDiff, reduceCtorEq, ↓reduceIte, Int.reduceEq, Int.reduceLT, Int.reduceLE, Int.reduceNe, Int.reduceAdd, Int.reduceSub, Int.reduceMul, Int.reduceToNat, Nat.reduceShiftRight, Nat.reduceAnd, Nat.reduceBNe]
    refine callF hrs ⟨rfl, trivial⟩ rfl rfl ?_
    simp -implicitDefEqProofs only [push_cast, Nat.reduceBEq, Nat.reduceLT, Nat.reduceLeDiff, Nat.reduceAdd, Nat.reduceSub, Nat.reduceMul, Nat.reduceEqDiff, reduceCtorEq, ↓reduceIte, Int.reduceEq, Int.reduceLT, Int.reduceLE, Int.reduceNe, Int.reduceAdd, Int.reduceSub, Int.reduceMul, Int.reduceToNat, Nat.reduceShiftRight, Nat.reduceAnd, Nat.reduceBNe]
    have hmod : 0 ≤ k.tmod (max 1 sz) ∧ k.tmod (max 1 sz) ≤ 4096 := by
      have h1 : 0 ≤ k.tmod (max 1 sz) := Int.tmod_nonneg _ hk.1
      have h2 := Int.tmod_lt_of_pos k (show 0 < max 1 sz by omega)
      omega
    refine ⟨by simp only [inR]; omega, by omega, ?_⟩
    refine loop_w (α := Nat) (fun q2 => ⟨[(57, I q2), (56, .agg [I i, I (k.tmod (max 1 sz))]), (39, I q), (38, .agg [IL c1, IL p1, IL c2, IL p1, IL c2, IL p2]), (14, I sz), (13, I 0), (12, .ptr 1 0), (4, U16 k), (2, I i)], [boxD dc dw dof, .box [IL a, IL b]], []⟩) (fun q2 => q2 ≤ 2) (fun q2 => 2 - q2) 0 (wk_cut [57, 56, 39, 38, 14, 13, 12, 4, 2] 2 rfl ⟨rfl, rfl, rfl⟩ rfl) (by omega) ?_
    intro q2 hq2
    by_cases hq3 : q2 = 2
    · subst hq3
      simp -implicitDefEqProofs only [c5L0, U16, push_cast, Nat.reduceBEq, Nat.reduceLT, Nat.reduceLeDiff, Nat.reduceAdd, Nat.reduceSub, Nat.reduceMul, Nat.reduceEqDiff, reduceCtorEq, ↓reduceIte, Int.reduceEq, Int.reduceLT, Int.reduceLE, Int.reduceNe, Int.reduceAdd, Int.reduceSub, Int.reduceMul, Int.reduceToNat, Nat.reduceShiftRight, Nat.reduceAnd, Nat.reduceBNe]
      refine ⟨by simp only [inR]; omega, q + 1, by omega, by omega, wk_cut [39, 38, 4, 2] 1 rfl ⟨rfl, rfl, rfl⟩ rfl⟩
    obtain ⟨j, hgj, hij⟩ : ∃ j : Int, [I i, I (k.tmod (max 1 sz))][q2]? = some (I j) ∧ inR .i64 j := by
      have : q2 = 0 ∨ q2 = 1 := by omega
      rcases this with rfl | rfl
      · exact ⟨_, rfl, hi⟩
      · exact ⟨_, rfl, by simp only [inR]; omega⟩
    have hpj := hper j
    have hpj : PC Try.prog 34 [IL a, IL b, I j] (.tup [I 0, I 2]) := by
      simp only at hpj
      cases h1 : decide (b.length = a.length) with
      | false => rw [h1] at hpj; exact hpj
      | true =>
        rw [h1, Bool.true_and] at hrt
        rw [h1, hrt] at hpj
        exact hpj
    simp -implicitDefEqProofs only [c5L0, U16, Nat.mul_one, hgj, push_cast, Nat.reduceBEq, Nat.reduceLT, Nat.reduceLeDiff, Nat.reduceAdd, Nat.reduceSub, Nat.reduceMul, Nat.reduceEqDiff, reduceCtorEq, ↓reduceIte, Int.reduceEq, Int.reduceLT, Int.reduceLE, Int.reduceNe, Int.reduceAdd, Int.reduceSub, Int.reduceMul, Int.reduceToNat, Nat.reduceShiftRight, Nat.reduceAnd, Nat.reduceBNe]
    refine ⟨fun _ => ⟨by omega, ?_⟩, fun h => by omega⟩
    refine callF hpj ⟨rfl, rfl, rfl, trivial⟩ rfl rfl ?_
    simp -implicitDefEqProofs only [push_cast, Nat.reduceBEq, Nat.reduceLT, Nat.reduceLeDiff, Nat.reduceAdd, Nat.reduceSub, Nat.reduceMul, Nat.reduceEqDiff, reduceCtorEq, ↓reduceIte, Int.reduceEq, Int.reduceLT, Int.reduceLE, Int.reduceNe, Int.reduceAdd, Int.reduceSub, Int.reduceMul, Int.reduceToNat, Nat.reduceShiftRight, Nat.reduceAnd, Nat.reduceBNe]
    refine callF hrp ⟨rfl, rfl, trivial⟩ rfl rfl ?_
    simp -implicitDefEqProofs only [push_cast, Nat.reduceBEq, Nat.reduceLT, Nat.reduceLeDiff, Nat.reduceAdd, Nat.reduceSub, Nat.reduceMul, Nat.reduceEqDiff, reduceCtorEq, ↓reduceIte, Int.reduceEq, Int.reduceLT, Int.reduceLE, Int.reduceNe, Int.reduceAdd, Int.reduceSub, Int.reduceMul, Int.reduceToNat, Nat.reduceShiftRight, Nat.reduceAnd, Nat.reduceBNe]
    refine callF (then_vc 0 false) ⟨rfl, rfl, trivial⟩ rfl rfl ?_
    simp -implicitDefEqProofs only [show thenI 0 false = 2 from rfl, push_cast, Nat.reduceBEq, Nat.reduceLT, Nat.reduceLeDiff, Nat.reduceAdd, Nat.reduceSub, Nat.reduceMul, Nat.reduceEqDiff, reduceCtorEq, ↓reduceIte, Int.reduceEq, Int.reduceLT, Int.reduceLE, Int.reduceNe, Int.reduceAdd, Int.reduceSub, Int.reduceMul, Int.reduceToNat, Nat.reduceShiftRight, Nat.reduceAnd, Nat.reduceBNe]
    refine callF (lawnumber_vc 0 2 2 0) ⟨rfl, rfl, rfl, rfl, trivial⟩ rfl rfl ?_
    have e : numberB 0 2 2 0 = true := by simp [numberB]
    simp -implicitDefEqProofs only [e, push_cast, Nat.reduceBEq, Nat.reduceLT, Nat.reduceLeDiff, Nat.reduceAdd, Nat.reduceSub, Nat.reduceMul, Nat.reduceEqDiff, reduceCtorEq, ↓reduceIte, Int.reduceEq, Int.reduceLT, Int.reduceLE, Int.reduceNe, Int.reduceAdd, Int.reduceSub, Int.reduceMul, Int.reduceToNat, Nat.reduceShiftRight, Nat.reduceAnd, Nat.reduceBNe]
    refine ⟨by simp only [inR]; omega, q2 + 1, by omega, by omega, wk_cut [57, 56, 39, 38, 14, 13, 12, 4, 2] 2 rfl ⟨rfl, rfl, rfl⟩ rfl⟩
  | true =>
    simp only [Bool.and_eq_true] at hrt
    obtain ⟨hrt1, hrt2⟩ := hrt
    obtain ⟨hp, hnd, hsz, _, _⟩ := pick_ok hs hrt2
    simp -implicitDefEqProofs only [push_cast, Nat.reduceBEq, Nat.reduceLT, Nat.reduceLeDiff, Nat.reduceAdd, Nat.reduceSub, Nat.reduceMul, Nat.reduceEqDiff, reduceCtorEq, ↓reduceIte, Int.reduceEq, Int.reduceLT, Int.reduceLE, Int.reduceNe, Int.reduceAdd, Int.reduceSub, Int.reduceMul, Int.reduceToNat, Nat.reduceShiftRight, Nat.reduceAnd, Nat.reduceBNe]
    refine callF hrs ⟨rfl, trivial⟩ rfl rfl ?_
    simp -implicitDefEqProofs only [push_cast, Nat.reduceBEq, Nat.reduceLT, Nat.reduceLeDiff, Nat.reduceAdd, Nat.reduceSub, Nat.reduceMul, Nat.reduceEqDiff, reduceCtorEq, ↓reduceIte, Int.reduceEq, Int.reduceLT, Int.reduceLE, Int.reduceNe, Int.reduceAdd, Int.reduceSub, Int.reduceMul, Int.reduceToNat, Nat.reduceShiftRight, Nat.reduceAnd, Nat.reduceBNe]
    have hmod : 0 ≤ k.tmod (max 1 sz) ∧ k.tmod (max 1 sz) ≤ 4096 := by
      have h1 : 0 ≤ k.tmod (max 1 sz) := Int.tmod_nonneg _ hk.1
      have h2 := Int.tmod_lt_of_pos k (show 0 < max 1 sz by omega)
      omega
    refine ⟨by simp only [inR]; omega, by omega, ?_⟩
    refine loop_w (α := Nat) (fun q2 => ⟨[(57, I q2), (56, .agg [I i, I (k.tmod (max 1 sz))]), (39, I q), (38, .agg [IL c1, IL p1, IL c2, IL p1, IL c2, IL p2]), (14, I sz), (13, I 0), (12, .ptr 1 0), (4, U16 k), (2, I i)], [boxD dc dw dof, .box [IL a, IL b]], []⟩) (fun q2 => q2 ≤ 2) (fun q2 => 2 - q2) 0 (wk_cut [57, 56, 39, 38, 14, 13, 12, 4, 2] 2 rfl ⟨rfl, rfl, rfl⟩ rfl) (by omega) ?_
    intro q2 hq2
    by_cases hq3 : q2 = 2
    · subst hq3
      simp -implicitDefEqProofs only [c5L0, U16, push_cast, Nat.reduceBEq, Nat.reduceLT, Nat.reduceLeDiff, Nat.reduceAdd, Nat.reduceSub, Nat.reduceMul, Nat.reduceEqDiff, reduceCtorEq, ↓reduceIte, Int.reduceEq, Int.reduceLT, Int.reduceLE, Int.reduceNe, Int.reduceAdd, Int.reduceSub, Int.reduceMul, Int.reduceToNat, Nat.reduceShiftRight, Nat.reduceAnd, Nat.reduceBNe]
      refine ⟨by simp only [inR]; omega, q + 1, by omega, by omega, wk_cut [39, 38, 4, 2] 1 rfl ⟨rfl, rfl, rfl⟩ rfl⟩
    obtain ⟨j, hgj, hij⟩ : ∃ j : Int, [I i, I (k.tmod (max 1 sz))][q2]? = some (I j) ∧ inR .i64 j := by
      have : q2 = 0 ∨ q2 = 1 := by omega
      rcases this with rfl | rfl
      · exact ⟨_, rfl, hi⟩
      · exact ⟨_, rfl, by simp only [inR]; omega⟩
    have hpj := hper j
    rw [hrt1, hrt2] at hpj
    simp only at hpj
    by_cases ha : 0 ≤ j
    · by_cases hb : j < sz
      · rw [decide_eq_true (show 0 ≤ j ∧ j < sz from ⟨ha, hb⟩)] at hpj
        simp only at hpj
        simp -implicitDefEqProofs only [c5L0, U16, Nat.mul_one, hgj, ha, hb, push_cast, Nat.reduceBEq, Nat.reduceLT, Nat.reduceLeDiff, Nat.reduceAdd, Nat.reduceSub, Nat.reduceMul, Nat.reduceEqDiff, reduceCtorEq, ↓reduceIte, Int.reduceEq, Int.reduceLT, Int.reduceLE, Int.reduceNe, Int.reduceAdd, Int.reduceSub, Int.reduceMul, Int.reduceToNat, Nat.reduceShiftRight, Nat.reduceAnd, Nat.reduceBNe]
        refine ⟨fun _ => ⟨by omega, ?_⟩, fun h => by omega⟩
        refine callF hpj ⟨rfl, rfl, rfl, trivial⟩ rfl rfl ?_
        simp -implicitDefEqProofs only [ha, hb, push_cast, Nat.reduceBEq, Nat.reduceLT, Nat.reduceLeDiff, Nat.reduceAdd, Nat.reduceSub, Nat.reduceMul, Nat.reduceEqDiff, reduceCtorEq, ↓reduceIte, Int.reduceEq, Int.reduceLT, Int.reduceLE, Int.reduceNe, Int.reduceAdd, Int.reduceSub, Int.reduceMul, Int.reduceToNat, Nat.reduceShiftRight, Nat.reduceAnd, Nat.reduceBNe]
        refine callF hrp ⟨rfl, rfl, trivial⟩ rfl rfl ?_
        simp -implicitDefEqProofs only [ha, hb, push_cast, Nat.reduceBEq, Nat.reduceLT, Nat.reduceLeDiff, Nat.reduceAdd, Nat.reduceSub, Nat.reduceMul, Nat.reduceEqDiff, reduceCtorEq, ↓reduceIte, Int.reduceEq, Int.reduceLT, Int.reduceLE, Int.reduceNe, Int.reduceAdd, Int.reduceSub, Int.reduceMul, Int.reduceToNat, Nat.reduceShiftRight, Nat.reduceAnd, Nat.reduceBNe]
        refine callF (then_vc 0 true) ⟨rfl, rfl, trivial⟩ rfl rfl ?_
        simp -implicitDefEqProofs only [show thenI 0 true = 0 from rfl, push_cast, Nat.reduceBEq, Nat.reduceLT, Nat.reduceLeDiff, Nat.reduceAdd, Nat.reduceSub, Nat.reduceMul, Nat.reduceEqDiff, reduceCtorEq, ↓reduceIte, Int.reduceEq, Int.reduceLT, Int.reduceLE, Int.reduceNe, Int.reduceAdd, Int.reduceSub, Int.reduceMul, Int.reduceToNat, Nat.reduceShiftRight, Nat.reduceAnd, Nat.reduceBNe]
        refine ppF (at_pc a b (by omega) hp) ⟨rfl, rfl, trivial⟩ rfl rfl ?_
        simp -implicitDefEqProofs only [push_cast, Nat.reduceBEq, Nat.reduceLT, Nat.reduceLeDiff, Nat.reduceAdd, Nat.reduceSub, Nat.reduceMul, Nat.reduceEqDiff, reduceCtorEq, ↓reduceIte, Int.reduceEq, Int.reduceLT, Int.reduceLE, Int.reduceNe, Int.reduceAdd, Int.reduceSub, Int.reduceMul, Int.reduceToNat, Nat.reduceShiftRight, Nat.reduceAnd, Nat.reduceBNe]
        refine ppF (refvalues_pc a j (by omega) (fun c h => (hc c h).1) (by omega)) ⟨rfl, rfl, trivial⟩ rfl rfl ?_
        simp -implicitDefEqProofs only [push_cast, Nat.reduceBEq, Nat.reduceLT, Nat.reduceLeDiff, Nat.reduceAdd, Nat.reduceSub, Nat.reduceMul, Nat.reduceEqDiff, reduceCtorEq, ↓reduceIte, Int.reduceEq, Int.reduceLT, Int.reduceLE, Int.reduceNe, Int.reduceAdd, Int.reduceSub, Int.reduceMul, Int.reduceToNat, Nat.reduceShiftRight, Nat.reduceAnd, Nat.reduceBNe]
        refine ppF (at_pc (digs a j).1 b (by omega) (by rw [digs_length]; exact hp)) ⟨rfl, rfl, trivial⟩ rfl rfl ?_
        simp -implicitDefEqProofs only [push_cast, Nat.reduceBEq, Nat.reduceLT, Nat.reduceLeDiff, Nat.reduceAdd, Nat.reduceSub, Nat.reduceMul, Nat.reduceEqDiff, reduceCtorEq, ↓reduceIte, Int.reduceEq, Int.reduceLT, Int.reduceLE, Int.reduceNe, Int.reduceAdd, Int.reduceSub, Int.reduceMul, Int.reduceToNat, Nat.reduceShiftRight, Nat.reduceAnd, Nat.reduceBNe]
        refine ppF (refindex_vc (pickL a b) (pickL (digs a j).1 b) _ hsz (by simp [pickL]; omega) (withinL_pick a (digs a j).1 b (digs_length _ _) hp (digs_within j (by omega) a (fun c h => (hc c h).1)))) ⟨rfl, rfl, trivial⟩ rfl rfl ?_
        simp -implicitDefEqProofs only [push_cast, Nat.reduceBEq, Nat.reduceLT, Nat.reduceLeDiff, Nat.reduceAdd, Nat.reduceSub, Nat.reduceMul, Nat.reduceEqDiff, reduceCtorEq, ↓reduceIte, Int.reduceEq, Int.reduceLT, Int.reduceLE, Int.reduceNe, Int.reduceAdd, Int.reduceSub, Int.reduceMul, Int.reduceToNat, Nat.reduceShiftRight, Nat.reduceAnd, Nat.reduceBNe]
        refine callF (lawnumber_vc (partN a b j) 0 0 (partN a b j)) ⟨rfl, rfl, rfl, rfl, trivial⟩ rfl rfl ?_
        have e : numberB (partN a b j) 0 0 (partN a b j) = true := by simp [numberB]
        simp -implicitDefEqProofs only [e, push_cast, Nat.reduceBEq, Nat.reduceLT, Nat.reduceLeDiff, Nat.reduceAdd, Nat.reduceSub, Nat.reduceMul, Nat.reduceEqDiff, reduceCtorEq, ↓reduceIte, Int.reduceEq, Int.reduceLT, Int.reduceLE, Int.reduceNe, Int.reduceAdd, Int.reduceSub, Int.reduceMul, Int.reduceToNat, Nat.reduceShiftRight, Nat.reduceAnd, Nat.reduceBNe]
        refine ⟨by simp only [inR]; omega, q2 + 1, by omega, by omega, wk_cut [57, 56, 39, 38, 14, 13, 12, 4, 2] 2 rfl ⟨rfl, rfl, rfl⟩ rfl⟩
      · rw [decide_eq_false (show ¬ (0 ≤ j ∧ j < sz) from fun h => hb h.2)] at hpj
        simp only at hpj
        simp -implicitDefEqProofs only [c5L0, U16, Nat.mul_one, hgj, ha, hb, push_cast, Nat.reduceBEq, Nat.reduceLT, Nat.reduceLeDiff, Nat.reduceAdd, Nat.reduceSub, Nat.reduceMul, Nat.reduceEqDiff, reduceCtorEq, ↓reduceIte, Int.reduceEq, Int.reduceLT, Int.reduceLE, Int.reduceNe, Int.reduceAdd, Int.reduceSub, Int.reduceMul, Int.reduceToNat, Nat.reduceShiftRight, Nat.reduceAnd, Nat.reduceBNe]
        refine ⟨fun _ => ⟨by omega, ?_⟩, fun h => by omega⟩
        refine callF hpj ⟨rfl, rfl, rfl, trivial⟩ rfl rfl ?_
        simp -implicitDefEqProofs only [ha, hb, push_cast, Nat.reduceBEq, Nat.reduceLT, Nat.reduceLeDiff, Nat.reduceAdd, Nat.reduceSub, Nat.reduceMul, Nat.reduceEqDiff, reduceCtorEq, ↓reduceIte, Int.reduceEq, Int.reduceLT, Int.reduceLE, Int.reduceNe, Int.reduceAdd, Int.reduceSub, Int.reduceMul, Int.reduceToNat, Nat.reduceShiftRight, Nat.reduceAnd, Nat.reduceBNe]
        refine callF hrp ⟨rfl, rfl, trivial⟩ rfl rfl ?_
        simp -implicitDefEqProofs only [ha, hb, push_cast, Nat.reduceBEq, Nat.reduceLT, Nat.reduceLeDiff, Nat.reduceAdd, Nat.reduceSub, Nat.reduceMul, Nat.reduceEqDiff, reduceCtorEq, ↓reduceIte, Int.reduceEq, Int.reduceLT, Int.reduceLE, Int.reduceNe, Int.reduceAdd, Int.reduceSub, Int.reduceMul, Int.reduceToNat, Nat.reduceShiftRight, Nat.reduceAnd, Nat.reduceBNe]
        refine callF (then_vc 0 false) ⟨rfl, rfl, trivial⟩ rfl rfl ?_
        simp -implicitDefEqProofs only [show thenI 0 false = 2 from rfl, push_cast, Nat.reduceBEq, Nat.reduceLT, Nat.reduceLeDiff, Nat.reduceAdd, Nat.reduceSub, Nat.reduceMul, Nat.reduceEqDiff, reduceCtorEq, ↓reduceIte, Int.reduceEq, Int.reduceLT, Int.reduceLE, Int.reduceNe, Int.reduceAdd, Int.reduceSub, Int.reduceMul, Int.reduceToNat, Nat.reduceShiftRight, Nat.reduceAnd, Nat.reduceBNe]
        refine callF (lawnumber_vc 0 2 2 0) ⟨rfl, rfl, rfl, rfl, trivial⟩ rfl rfl ?_
        have e : numberB 0 2 2 0 = true := by simp [numberB]
        simp -implicitDefEqProofs only [e, push_cast, Nat.reduceBEq, Nat.reduceLT, Nat.reduceLeDiff, Nat.reduceAdd, Nat.reduceSub, Nat.reduceMul, Nat.reduceEqDiff, reduceCtorEq, ↓reduceIte, Int.reduceEq, Int.reduceLT, Int.reduceLE, Int.reduceNe, Int.reduceAdd, Int.reduceSub, Int.reduceMul, Int.reduceToNat, Nat.reduceShiftRight, Nat.reduceAnd, Nat.reduceBNe]
        refine ⟨by simp only [inR]; omega, q2 + 1, by omega, by omega, wk_cut [57, 56, 39, 38, 14, 13, 12, 4, 2] 2 rfl ⟨rfl, rfl, rfl⟩ rfl⟩
    · rw [decide_eq_false (show ¬ (0 ≤ j ∧ j < sz) from fun h => ha h.1)] at hpj
      simp only at hpj
      simp -implicitDefEqProofs only [c5L0, U16, Nat.mul_one, hgj, ha, push_cast, Nat.reduceBEq, Nat.reduceLT, Nat.reduceLeDiff, Nat.reduceAdd, Nat.reduceSub, Nat.reduceMul, Nat.reduceEqDiff, reduceCtorEq, ↓reduceIte, Int.reduceEq, Int.reduceLT, Int.reduceLE, Int.reduceNe, Int.reduceAdd, Int.reduceSub, Int.reduceMul, Int.reduceToNat, Nat.reduceShiftRight, Nat.reduceAnd, Nat.reduceBNe]
      refine ⟨fun _ => ⟨by omega, ?_⟩, fun h => by omega⟩
      refine callF hpj ⟨rfl, rfl, rfl, trivial⟩ rfl rfl ?_
      simp -implicitDefEqProofs only [ha, push_cast, Nat.reduceBEq, Nat.reduceLT, Nat.reduceLeDiff, Nat.reduceAdd, Nat.reduceSub, Nat.reduceMul, Nat.reduceEqDiff, reduceCtorEq, ↓reduceIte, Int.reduceEq, Int.reduceLT, Int.reduceLE, Int.reduceNe, Int.reduceAdd, Int.reduceSub, Int.reduceMul, Int.reduceToNat, Nat.reduceShiftRight, Nat.reduceAnd, Nat.reduceBNe]
      refine callF hrp ⟨rfl, rfl, trivial⟩ rfl rfl ?_
      simp -implicitDefEqProofs only [ha, push_cast, Nat.reduceBEq, Nat.reduceLT, Nat.reduceLeDiff, Nat.reduceAdd, Nat.reduceSub, Nat.reduceMul, Nat.reduceEqDiff, reduceCtorEq, ↓reduceIte, Int.reduceEq, Int.reduceLT, Int.reduceLE, Int.reduceNe, Int.reduceAdd, Int.reduceSub, Int.reduceMul, Int.reduceToNat, Nat.reduceShiftRight, Nat.reduceAnd, Nat.reduceBNe]
      refine callF (then_vc 0 false) ⟨rfl, rfl, trivial⟩ rfl rfl ?_
      simp -implicitDefEqProofs only [show thenI 0 false = 2 from rfl, push_cast, Nat.reduceBEq, Nat.reduceLT, Nat.reduceLeDiff, Nat.reduceAdd, Nat.reduceSub, Nat.reduceMul, Nat.reduceEqDiff, reduceCtorEq, ↓reduceIte, Int.reduceEq, Int.reduceLT, Int.reduceLE, Int.reduceNe, Int.reduceAdd, Int.reduceSub, Int.reduceMul, Int.reduceToNat, Nat.reduceShiftRight, Nat.reduceAnd, Nat.reduceBNe]
      refine callF (lawnumber_vc 0 2 2 0) ⟨rfl, rfl, rfl, rfl, trivial⟩ rfl rfl ?_
      have e : numberB 0 2 2 0 = true := by simp [numberB]
      simp -implicitDefEqProofs only [e, push_cast, Nat.reduceBEq, Nat.reduceLT, Nat.reduceLeDiff, Nat.reduceAdd, Nat.reduceSub, Nat.reduceMul, Nat.reduceEqDiff, reduceCtorEq, ↓reduceIte, Int.reduceEq, Int.reduceLT, Int.reduceLE, Int.reduceNe, Int.reduceAdd, Int.reduceSub, Int.reduceMul, Int.reduceToNat, Nat.reduceShiftRight, Nat.reduceAnd, Nat.reduceBNe]
      refine ⟨by simp only [inR]; omega, q2 + 1, by omega, by omega, wk_cut [57, 56, 39, 38, 14, 13, 12, 4, 2] 2 rfl ⟨rfl, rfl, rfl⟩ rfl⟩
end Go.Proofs.Ytcplbmlebogffaa

namespace Go.Proofs.Ytcplbmlebogffaa
open Go GoV
set_option maxHeartbeats 2000000

theorem idxR_snd : ∀ (cs vs : List Int), cs.length = vs.length → (idxR cs vs).2 = prodL cs
  | [], [], _ => rfl
  | c :: cs, v :: vs, h => by
    simp only [idxR, prodL]
    rw [idxR_snd cs vs (by simpa using h), Int.mul_comm]
  | [], _ :: _, h => by simp at h
  | _ :: _, [], h => by simp at h

theorem idxR_digs (i : Int) : ∀ (cs : List Int), (idxR cs (digs cs i).1).1 + (digs cs i).2 * prodL cs = i
  | [] => by simp [idxR, digs, prodL]
  | c :: cs => by
    have ih := idxR_digs i cs
    simp only [idxR, digs, prodL]
    rw [idxR_snd cs _ (digs_length cs i).symm]
    have e := Int.tmod_add_mul_tdiv (digs cs i).2 c
    have e2 : (digs cs i).2.tmod c * prodL cs + (digs cs i).2.tdiv c * (c * prodL cs) = (digs cs i).2 * prodL cs := by
      rw [← Int.mul_assoc, ← Int.add_mul, Int.mul_comm _ c, e]
    omega

theorem idxR_lt : ∀ (cs vs : List Int), (∀ c ∈ cs, 1 ≤ c) → withinL vs cs = true → 0 ≤ (idxR cs vs).1 ∧ (idxR cs vs).1 < prodL cs
  | [], [], _, _ => by simp [idxR, prodL]
  | c :: cs, v :: vs, hc, hw => by
    simp only [withinL, Bool.and_eq_true, decide_eq_true_eq] at hw
    obtain ⟨⟨h0, h1⟩, h2⟩ := hw
    obtain ⟨k1, k2⟩ := idxR_lt cs vs (fun x hx => hc x (by simp [hx])) h2
    have hl := withinL_len h2
    simp only [idxR, prodL]
    rw [idxR_snd cs vs hl.symm]
    have hp := prodL_pos cs (fun x hx => hc x (by simp [hx]))
    have g1 : 0 ≤ v * prodL cs := Int.mul_nonneg h0 (by omega)
    have g2 : (v + 1) * prodL cs ≤ c * prodL cs := Int.mul_le_mul_of_nonneg_right (by omega) (by omega)
    rw [Int.add_mul, Int.one_mul] at g2
    omega
  | [], _ :: _, _, h => by simp [withinL] at h
  | _ :: _, [], _, h => by simp [withinL] at h

theorem digs_idxR : ∀ (cs vs : List Int) (q : Int), 0 ≤ q → (∀ c ∈ cs, 1 ≤ c) → withinL vs cs = true → digs cs ((idxR cs vs).1 + q * prodL cs) = (vs, q)
  | [], [], q, _, _, _ => by simp [idxR, prodL, digs]
  | c :: cs, v :: vs, q, hq, hc, hw => by
    simp only [withinL, Bool.and_eq_true, decide_eq_true_eq] at hw
    obtain ⟨⟨h0, h1⟩, h2⟩ := hw
    have hl := withinL_len h2
    have g : 0 ≤ v + q * c := by have := Int.mul_nonneg hq (show 0 ≤ c by omega); omega
    have ih := digs_idxR cs vs (v + q * c) g (fun x hx => hc x (by simp [hx])) h2
    have e : (idxR (c :: cs) (v :: vs)).1 + q * prodL (c :: cs) = (idxR cs vs).1 + (v + q * c) * prodL cs := by
      simp only [idxR, prodL]
      rw [idxR_snd cs vs hl.symm, Int.add_mul, Int.mul_assoc]
      omega
    rw [e]
    simp only [digs, ih]
    have e1 : (v + q * c).tmod c = v := by
      rw [Int.tmod_eq_emod_of_nonneg g, Int.add_mul_emod_self_right, Int.emod_eq_of_lt h0 h1]
    have e2 : (v + q * c).tdiv c = q := by
      rw [Int.tdiv_eq_ediv_of_nonneg g, Int.add_mul_ediv_right _ _ (by omega), Int.ediv_eq_zero_of_lt h0 h1, Int.zero_add]
    rw [e1, e2]
  | [], _ :: _, _, _, _, h => by simp [withinL] at h
  | _ :: _, [], _, _, _, h => by simp [withinL] at h

theorem digs_num {cs vs : List Int} (hc : ∀ c ∈ cs, 1 ≤ c) (hw : withinL vs cs = true) : (digs cs (idxR cs vs).1).1 = vs := by
  have := digs_idxR cs vs 0 (by omega) hc hw
  rw [Int.zero_mul, Int.add_zero] at this
  rw [this]

theorem num_digs {cs : List Int} {i : Int} (hc : ∀ c ∈ cs, 1 ≤ c) (hi : 0 ≤ i ∧ i < prodL cs) : (idxR cs (digs cs i).1).1 = i := by
  have h := idxR_digs i cs
  obtain ⟨k1, k2⟩ := idxR_lt cs _ hc (digs_within i hi.1 cs hc)
  have h0 := (digs_left hi.1 cs hc).1
  have hp := prodL_pos cs hc
  have : (digs cs i).2 = 0 := by
    rcases Int.lt_or_le 0 (digs cs i).2 with h1 | h1
    · exfalso
      have : 1 * prodL cs ≤ (digs cs i).2 * prodL cs := Int.mul_le_mul_of_nonneg_right (by omega) (by omega)
      omega
    · omega
  rw [this] at h
  omega

/-! ### permutations -/
theorem permD_mem (o : List Int) : ∀ (n : Nat) (x : Int), x ∈ permD o n ↔ 0 ≤ x ∧ x < n
  | 0, x => by simp [permD]
  | k + 1, x => by
    have key : ∀ (l : List Int) (a : Nat), x ∈ l.take a ++ [(k : Int)] ++ l.drop a ↔ x ∈ l ∨ x = k := by
      intro l a
      have := List.take_append_drop a l
      constructor
      · intro h
        simp only [List.mem_append, List.mem_singleton] at h
        rcases h with (h | h) | h
        · exact .inl (List.mem_of_mem_take h)
        · exact .inr h
        · exact .inl (List.mem_of_mem_drop h)
      · rintro (h | h)
        · rw [← this] at h
          simp only [List.mem_append, List.mem_singleton] at h ⊢
          rcases h with h | h
          · exact .inl (.inl h)
          · exact .inr h
        · simp [h]
    simp only [permD]
    rw [key, permD_mem o k]
    omega

theorem permD_nodup (o : List Int) : ∀ (n : Nat), (permD o n).Nodup
  | 0 => by simp [permD]
  | k + 1 => by
    have ih := permD_nodup o k
    have hk : (k : Int) ∉ permD o k := fun h => by have := (permD_mem o k _).1 h; omega
    have key : ∀ (l : List Int) (a : Nat), l.Nodup → (k : Int) ∉ l → (l.take a ++ [(k : Int)] ++ l.drop a).Nodup := by
      intro l a hl hn
      have e := List.take_append_drop a l
      rw [← e] at hl hn
      rw [List.nodup_append] at hl
      simp only [List.mem_append, not_or] at hn
      rw [List.append_assoc, List.nodup_append]
      refine ⟨hl.1, ?_, ?_⟩
      · simp only [List.singleton_append, List.nodup_cons]
        exact ⟨hn.2, hl.2.1⟩
      · intro a ha b hb
        simp only [List.singleton_append, List.mem_cons] at hb
        rcases hb with rfl | hb
        · intro e; subst e; exact hn.1 ha
        · exact hl.2.2 a ha b hb
    exact key _ _ ih hk

theorem distinct_of (n : Int) (hn : n ≤ 12) : ∀ (l : List Int) (seen : List Bool) (last : Int), seen.length = 12 → l.Nodup → (∀ k ∈ l, (0 ≤ k ∧ k < n) ∧ seen.getD k.toNat false = false) → distinctL n false seen last l = true
  | [], _, _, _, _, _ => rfl
  | k :: r, seen, last, hl, hd, h => by
    obtain ⟨h1, h2⟩ := h k (by simp)
    simp only [List.nodup_cons] at hd
    simp only [distinctL]
    rw [if_neg (by rw [h2]; simp; omega)]
    refine distinct_of n hn r (seen.set k.toNat true) k (by simpa using hl) hd.2 (fun x hx => ?_)
    obtain ⟨g1, g2⟩ := h x (by simp [hx])
    refine ⟨g1, ?_⟩
    have hne : k.toNat ≠ x.toNat := by
      intro e
      have : k = x := by omega
      subst this
      exact hd.1 hx
    simp only [List.getD_eq_getElem?_getD] at g2 ⊢
    rw [List.getElem?_set_ne hne]
    exact g2

/-- the inverse, as the law makes it -/
def backD (p : List Int) (m : Nat) : Nat → List Int
  | 0 => zer m
  | q + 1 => (backD p m q).set (p.getD q 0).toNat q
theorem backD_length (p : List Int) (m : Nat) : ∀ q, (backD p m q).length = m
  | 0 => by simp [backD, zer]
  | q + 1 => by simp [backD, backD_length p m q]
/-- the turned cards, as the law makes them -/
def turnD (c p : List Int) (q : Nat) : List Int := pickL c (p.take q) ++ zer (p.length - q)
theorem turnD_length (c p : List Int) (q : Nat) (hq : q ≤ p.length) : (turnD c p q).length = p.length := by
  simp [turnD, pickL, zer]; omega
theorem turnD_succ (c p : List Int) (q : Nat) (hq : q < p.length) : (turnD c p q).set q (c.getD (p.getD q 0).toNat 0) = turnD c p (q + 1) := by
  have e1 : p.length - q = (p.length - (q + 1)) + 1 := by omega
  have e2 : p.take (q + 1) = p.take q ++ [p.getD q 0] := by
    rw [List.take_add_one]; simp [hq]
  have hl : (pickL c (p.take q)).length = q := by simp [pickL]; omega
  unfold turnD
  rw [e1, e2]
  simp only [zer, List.replicate_succ, pickL, List.map_append, List.map_cons, List.map_nil, List.append_assoc, List.cons_append, List.nil_append]
  rw [List.set_append_right _ _ (by simp; omega)]
  have : q - (List.map (fun k : Int => c.getD k.toNat 0) (p.take q)).length = 0 := by simp; omega
  rw [this]
  rfl
theorem turnD_all (c p : List Int) : turnD c p p.length = pickL c p := by simp [turnD, zer]
theorem turnD_zero (c p : List Int) : turnD c p 0 = zer p.length := by simp [turnD, zer, pickL]

section
variable {p : List Int} {m : Nat}
theorem backD_get (hm : p.length = m) (hp : ∀ k ∈ p, 0 ≤ k ∧ k < m) (hd : p.Nodup) : ∀ (q t : Nat), q ≤ m → t < q → (backD p m q).getD (p.getD t 0).toNat 0 = t
  | 0, t, _, h => by omega
  | q + 1, t, hq, ht => by
    have hql : q < p.length := by omega
    have htl : t < p.length := by omega
    have eq_ : p.getD q 0 = p[q] := by simp [hql]
    have et : p.getD t 0 = p[t] := by simp [htl]
    have hpq := hp _ (List.getElem_mem hql)
    have hpt := hp _ (List.getElem_mem htl)
    simp only [backD]
    by_cases e : t = q
    · subst e
      rw [et]
      have : (p[t]).toNat < (backD p m t).length := by rw [backD_length]; omega
      simp [this]
    · have ih := backD_get hm hp hd q t (by omega) (by omega)
      have hne : (p.getD q 0).toNat ≠ (p.getD t 0).toNat := by
        rw [eq_, et]
        intro h
        have h2 : p[q] = p[t] := by omega
        exact e ((List.getElem_inj hd).1 h2).symm
      simp only [List.getD_eq_getElem?_getD] at ih hne ⊢
      rw [List.getElem?_set_ne hne]
      exact ih

/-- all of it -/
theorem back_spec (hm : p.length = m) (hp : ∀ k ∈ p, 0 ≤ k ∧ k < m) (hd : p.Nodup) (hall : ∀ x : Int, 0 ≤ x ∧ x < m → x ∈ p) :
    (∀ k ∈ backD p m m, 0 ≤ k ∧ k < m) ∧ (backD p m m).Nodup ∧ ∀ l : List Int, l.length = m → pickL (pickL l p) (backD p m m) = l := by
  have hlen := backD_length p m m
  have at_ : ∀ f : Nat, f < m → ∃ t : Nat, t < m ∧ p.getD t 0 = f ∧ (backD p m m).getD f 0 = t := by
    intro f hf
    obtain ⟨t, ht, e⟩ := List.getElem_of_mem (hall f ⟨by omega, by omega⟩)
    have et : p.getD t 0 = f := by simp [ht, e]
    have := backD_get hm hp hd m t (by omega) (by omega)
    rw [et] at this
    exact ⟨t, by omega, et, by simpa using this⟩
  have get : ∀ f (h : f < (backD p m m).length), (backD p m m)[f] = (backD p m m).getD f 0 := fun f h => by simp [h]
  refine ⟨fun k hk => ?_, ?_, fun l hl => ?_⟩
  · obtain ⟨f, hf, rfl⟩ := List.getElem_of_mem hk
    obtain ⟨t, h1, _, h3⟩ := at_ f (by omega)
    rw [get f hf, h3]
    omega
  · rw [List.nodup_iff_pairwise_ne, List.pairwise_iff_getElem]
    intro f g hf hg hlt e
    obtain ⟨t, h1, h2, h3⟩ := at_ f (by omega)
    obtain ⟨u, k1, k2, k3⟩ := at_ g (by omega)
    rw [get f hf, get g hg, h3, k3] at e
    have : t = u := by omega
    subst this
    rw [h2] at k2
    omega
  · refine List.ext_getElem (by simp [pickL, hlen, hl]) (fun f h1 h2 => ?_)
    obtain ⟨t, g1, g2, g3⟩ := at_ f (by omega)
    have hf : f < (backD p m m).length := by omega
    have htp : t < p.length := by omega
    simp only [pickL, List.getElem_map]
    rw [get f hf, g3]
    have e1 : (List.map (fun k : Int => l.getD k.toNat 0) p).getD (Int.toNat (t : Int)) 0 = l.getD (p.getD t 0).toNat 0 := by
      simp [htp]
    rw [e1, g2]
    simp [h2]
end
end Go.Proofs.Ytcplbmlebogffaa
