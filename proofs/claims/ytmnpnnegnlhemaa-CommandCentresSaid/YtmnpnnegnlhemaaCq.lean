/- The law on the rules, by the engine. -/
import Derived.Test.YtmnpnnegnlhemaaCn
namespace Go.Proofs.Ytmnpnnegnlhemaa.Eng
open Go

/-- What the laws call. -/
def ΓL : Con := fun f args H => match f with
  | .func 16 => c16 args H
  | f => cM f args H
theorem ΓL_sound (E : Addr → Option Value) : Con.Sound Try.prog E ΓL := by
  intro f args H h
  unfold ΓL at h ⊢
  split at h
  · exact c16_sound h
  · exact cM_sound E f args H h

theorem cen_words (n t s : Int) : ((rules t s && decide (1 ≤ n)) && decide (n ≤ 8)) = cenOk n t s := by
  unfold cenOk
  cases rules t s <;> simp
theorem nod_words (n t : Int) : ((rules t 0 && decide (1 ≤ n)) && decide (n ≤ 8)) = nodeOk n t := by
  unfold nodeOk rules
  rw [Bool.eq_iff_iff]
  simp
  omega

def pl3 : Nat → Plan
  | _ => []
set_option maxHeartbeats 1000000 in
set_option maxRecDepth 100000 in
theorem ok3 (E : Addr → Option Value) (n t s k : Int) : Ok Try.prog E 3 [.agg [ri n, ri t, ri s], ri k] [] (rb true) [] := by
  refine ok_of_eng (pl := pl3) mixed (ΓL_sound E) Try.func3 rfl rfl (by kernel_rfl) (by simp) 200 (fun F hF => ?_)
  have hX := cen_words n t s
  have hY := nod_words k t
  cases h1 : cenOk n t s <;> cases h2 : nodeOk k t <;> rw [h1] at hX <;> rw [h2] at hY <;>
    simp only [Try.f3, pl3, ΓL, c16, cM, c12, c13, c14, c15, h1, h2, hX, hY, encC, encN, newC, newN, ri, rb, NotExit, FinP, retP, sResults, sRes1, resK, retV, vwk, vwks, vwk1, hwk, bwk, sc, scs, scEnts, renB, rens, ren, renEnts, sig, subH, updH, eng, litSt, pl0, srunA_nil, srunA_b, stepR, contB_mk, r0, r1, r2, regC, sop, unw, strip, sev, tg, tset, tput, undefs, needs, opNeeds, sBin, ibin, shiftOp, gb, gslot, gdst, onth, wants, sPick, popF, selC, exitC, sLoad, sStore, sNil, sExtract, sMax, sMin, sField, sPart, sIndex, sLen, sSlice, sNew, sAlloc, sBox, sFill, sBuild, sLit, sMake, sApp, sMap, sInsert, sLookup, sCall, sBuiltin, sUn, sConv, sAt, cellsAt, roCells, hget, hset, hd1, vcells, one, whole, splice, holeAt, idxAt, pushAt, isHole, nth, zrep, tgt, src, app, allK, roRow, hasKey, findK, intsEq, drawSt, preL, chkL, chk, chk2, stp, nxtB_mk, pref_0, pref_b, hpOf, effD, effAt, effOp, pureOp, readOp, allocOp, insE, qAt, holes, lg, List.length_cons, List.length_nil, List.cons_append, List.nil_append, List.append_nil, List.map_cons, List.map_nil, List.take_succ_cons, List.take_zero, List.take_nil, List.drop_succ_cons, List.drop_zero, List.drop_nil, List.all_cons, List.all_nil, List.filter_cons, List.filter_nil, List.contains_cons, List.contains_nil, List.getElem?_cons_zero, List.getElem?_cons_succ, List.getElem?_nil, true_and, and_true, and_self, true_or, or_true, false_or, or_false, and_false, false_and, true_imp_iff, implies_true, forall_const, imp_self, ite_self, if_true, if_false, not_true_eq_false, not_false_eq_true, eq_self, ne_eq, Bool.true_eq_false, Bool.false_eq_true, Bool.not_true, Bool.not_false, Bool.true_and, Bool.and_true, Bool.false_and, Bool.and_false, Bool.or_true, Bool.true_or, Bool.or_false, Bool.false_or, Bool.and_self, Bool.cond_true, Bool.cond_false, Bool.cond_false_right, Bool.cond_true_left, decide_true, decide_false, Nat.zero_add, Nat.add_zero, Nat.zero_mul, Nat.mul_one, Nat.one_mul, Nat.sub_zero, Nat.le_refl, Nat.lt_irrefl, Int.toNat_natCast, Int.toNat_zero, Int.natCast_nonneg, Option.getD_some, Option.getD_none, Option.isSome_some, Option.toList, reduceCtorEq, List.cons.injEq, SV.raw.injEq, Value.int.injEq, Value.oneCell', Function.comp_apply, ↓reduceIte, Nat.reduceAdd, Nat.reduceSub, Nat.reduceMul, Nat.reduceLT, Nat.reduceLeDiff, Nat.reduceEqDiff, Nat.reduceBEq, Nat.reduceBNe, Nat.reduceMod, Nat.reduceDiv, Int.reduceLT, Int.reduceLE, Int.reduceEq, Int.reduceNe, Int.reduceToNat, Int.reduceAdd, Int.reduceSub, Int.reduceMul, Int.reduceNeg, tk3, ts3, ta3, tb3, tz3, ti3, tk4, ts4, ta4, tb4, tz4, tu4, tk23, ts23, ta23, tb23, tz23, tf23_0, tf23_1, tf23_2, tpl23, tk24, ts24, ta24, tb24, tz24, ti24, tk27, ts27, ta27, tb27, tz27, tp27, tk30, ts30, ta30, tb30, tz30, tp30] <;>
    exact hF _ _ _ ⟨trivial, by simp only [Try.f3, beq_self_eq_true, ri, rb, NotExit, FinP, retP, sResults, sRes1, resK, retV, vwk, vwks, vwk1, hwk, bwk, sc, scs, scEnts, renB, rens, ren, renEnts, sig, subH, updH, eng, litSt, pl0, srunA_nil, srunA_b, stepR, contB_mk, r0, r1, r2, regC, sop, unw, strip, sev, tg, tset, tput, undefs, needs, opNeeds, sBin, ibin, shiftOp, gb, gslot, gdst, onth, wants, sPick, popF, selC, exitC, sLoad, sStore, sNil, sExtract, sMax, sMin, sField, sPart, sIndex, sLen, sSlice, sNew, sAlloc, sBox, sFill, sBuild, sLit, sMake, sApp, sMap, sInsert, sLookup, sCall, sBuiltin, sUn, sConv, sAt, cellsAt, roCells, hget, hset, hd1, vcells, one, whole, splice, holeAt, idxAt, pushAt, isHole, nth, zrep, tgt, src, app, allK, roRow, hasKey, findK, intsEq, drawSt, preL, chkL, chk, chk2, stp, nxtB_mk, pref_0, pref_b, hpOf, effD, effAt, effOp, pureOp, readOp, allocOp, insE, qAt, holes, lg, List.length_cons, List.length_nil, List.cons_append, List.nil_append, List.append_nil, List.map_cons, List.map_nil, List.take_succ_cons, List.take_zero, List.take_nil, List.drop_succ_cons, List.drop_zero, List.drop_nil, List.all_cons, List.all_nil, List.filter_cons, List.filter_nil, List.contains_cons, List.contains_nil, List.getElem?_cons_zero, List.getElem?_cons_succ, List.getElem?_nil, true_and, and_true, and_self, true_or, or_true, false_or, or_false, and_false, false_and, true_imp_iff, implies_true, forall_const, imp_self, ite_self, if_true, if_false, not_true_eq_false, not_false_eq_true, eq_self, ne_eq, Bool.true_eq_false, Bool.false_eq_true, Bool.not_true, Bool.not_false, Bool.true_and, Bool.and_true, Bool.false_and, Bool.and_false, Bool.or_true, Bool.true_or, Bool.or_false, Bool.false_or, Bool.and_self, Bool.cond_true, Bool.cond_false, Bool.cond_false_right, Bool.cond_true_left, decide_true, decide_false, Nat.zero_add, Nat.add_zero, Nat.zero_mul, Nat.mul_one, Nat.one_mul, Nat.sub_zero, Nat.le_refl, Nat.lt_irrefl, Int.toNat_natCast, Int.toNat_zero, Int.natCast_nonneg, Option.getD_some, Option.getD_none, Option.isSome_some, Option.toList, reduceCtorEq, List.cons.injEq, SV.raw.injEq, Value.int.injEq, Value.oneCell', Function.comp_apply, ↓reduceIte, Nat.reduceAdd, Nat.reduceSub, Nat.reduceMul, Nat.reduceLT, Nat.reduceLeDiff, Nat.reduceEqDiff, Nat.reduceBEq, Nat.reduceBNe, Nat.reduceMod, Nat.reduceDiv, Int.reduceLT, Int.reduceLE, Int.reduceEq, Int.reduceNe, Int.reduceToNat, Int.reduceAdd, Int.reduceSub, Int.reduceMul, Int.reduceNeg]⟩

end Go.Proofs.Ytmnpnnegnlhemaa.Eng
