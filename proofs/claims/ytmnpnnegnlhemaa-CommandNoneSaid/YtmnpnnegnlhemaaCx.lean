/- The law on a centre and a node that no call made, by the engine. -/
import Derived.Test.YtmnpnnegnlhemaaCw
import Derived.Test.YtmnpnnegnlhemaaCr
namespace Go.Proofs.Ytmnpnnegnlhemaa.Eng
open Go

theorem seqZ : StructEq Try.prog 41 3 = True := eq_true seq41
def pl10 : Nat → Plan
  | _ => []
def t10 (n : Int) (i : Nat) : List SV := [ri n, .junk, .junk, .ptr 0 0, .junk, .junk, .junk, .lst 2 1 0 2, .lst 4 1 0 2, ri (i : Int)] ++ junks 138
def h10 (k a m : Int) : List AB := [.cells [ri k, ri a, ri m] 41, .cells zC 90, .lst 2 1 (fun i => lg [[.raw (.pointer none)], [.ptr 1 0]] i) 27, .cells zN 96, .lst 2 1 (fun i => lg [[.raw (.pointer none)], [.ptr 3 0]] i) 30]
set_option maxHeartbeats 4000000 in
set_option maxRecDepth 100000 in
theorem ok10 (E : Addr → Option Value) (n k a m : Int) : Ok Try.prog E 10 [ri n, word k a m] [] (rb true) [] := by
  refine ok_of_eng (pl := pl10) mixed (ΓV_sound E) Try.func10 rfl rfl (by kernel_rfl) (by simp) 300 (fun F hF => ?_)
  have c0 : ((0 : Nat) : Int) = 0 := rfl
  have c1 : ((1 : Nat) : Int) = 1 := rfl
  have c2 : ((2 : Nat) : Int) = 2 := rfl
  have v1 : IntKind.i64.wrap 1 = 1 := by decide
  have v2 : IntKind.i64.wrap 2 = 2 := by decide
  simp only [Try.f10, pl10, word, ri, eng, litSt, srunA_nil, srunA_b, stepR, contB_mk, r0, regC, sop, unw, strip, sev, tg, tset, tput, undefs, needs, opNeeds, sBox, sFill, sBuild, sLit, vcells, one, whole, splice, holeAt, idxAt, pushAt, nth, zrep, List.length_cons, List.length_nil, List.cons_append, List.nil_append, List.append_nil, List.map_cons, List.map_nil, List.take_succ_cons, List.take_zero, List.drop_succ_cons, List.drop_zero, List.drop_nil, List.all_cons, List.all_nil, true_and, and_self, eq_self, Bool.and_self, Nat.zero_add, Nat.mul_one, Nat.le_refl, Value.oneCell', Nat.reduceAdd, Nat.reduceSub, Nat.reduceLeDiff, tk27, ts27, tz27, tk30, ts30, tz30, te71, tz90, tpl90, te91, tz96, tpl96]
  refine ⟨Nat, t10 n, fun _ => h10 k a m, fun i => i ≤ 2, fun i => 2 - i, 0, by omega, ⟨none, ?_⟩, ?_⟩
  · simp only [NwO, Nw, t10, h10, zC, zN, junks, ri, c0, NwO, Nw, wk, vwks, vwk1, hwk, bwk, sc, scs, lg, List.length_cons, List.length_nil, List.cons_append, List.nil_append, true_and, and_true, and_self, eq_self, Bool.and_self, decide_true, Nat.zero_add, Nat.le_refl, Nat.reduceAdd, Nat.reduceLT, Nat.reduceLeDiff] <;> (and_intros <;> first | rfl | (intro k hk; (rcases k with _ | _ | _ | k <;> first | rfl | omega)))
  · rintro i hi F' hN hX
    have hi3 : i = 0 ∨ i = 1 ∨ i = 2 := by omega
    rcases hi3 with rfl | rfl | rfl
    · simp only [t10, h10, junks, pl10, ΓV, zC, zN, nw, c0, c2, v1, seqZ, lg, ri, ↓engE, drawE_mk, eng, litSt, srunA_nil, srunA_b, stepR, contB_mk, r0, r1, r2, regC, sop, unw, strip, sev, tg, tset, tput, needs, opNeeds, sBin, ibin, shiftOp, gb, gslot, gdst, onth, wants, sPick, selC, sLoad, sStore, sExtract, sIndex, sNew, sAlloc, sFill, sBuild, sCall, cellsAt, hget, hset, hd1, vcells, one, splice, holeAt, idxAt, pushAt, nth, intsEq, drawSt, preL, chkL, stp, nxtB_mk, pref_0, pref_b, allocOp, holes, lg, List.length_cons, List.length_nil, List.cons_append, List.nil_append, List.append_nil, List.map_cons, List.map_nil, List.take_succ_cons, List.take_zero, List.take_nil, List.drop_succ_cons, List.drop_zero, List.drop_nil, List.all_cons, List.all_nil, List.getElem?_cons_zero, List.getElem?_cons_succ, true_and, and_self, or_true, implies_true, eq_self, Bool.false_eq_true, Bool.not_true, Bool.not_false, Bool.and_self, Bool.cond_false, decide_true, Nat.zero_add, Nat.add_zero, Nat.le_refl, Int.toNat_zero, Value.oneCell', ↓reduceIte, Nat.reduceAdd, Nat.reduceLT, Int.reduceLT, Int.reduceLE, Int.reduceAdd, tk27, ts27, ta27, tk30, ts30, ta30, tk41, ts41, ta41, tz41, tpl41, te71, te91]
      refine hN none 1 _ _ (by omega) (by simp only; omega) ?_
      simp only [NwO, Nw, t10, h10, zC, zN, junks, ri, c1, NwO, Nw, wk, vwks, vwk1, hwk, bwk, sc, scs, lg, List.length_cons, List.length_nil, List.cons_append, List.nil_append, true_and, and_true, and_self, implies_true, eq_self, Bool.and_self, decide_true, Nat.zero_add, Nat.le_refl, Nat.reduceAdd, Nat.reduceLT, Nat.reduceLeDiff] <;> (and_intros <;> first | rfl | (intro k hk; (rcases k with _ | _ | _ | k <;> first | rfl | omega)))
    · simp only [t10, h10, junks, pl10, ΓV, onZ, zC, zN, nw, c1, c2, v2, seqZ, lg, ri, renB, rens, ren, subH, updH, ↓engE, drawE_mk, eng, litSt, srunA_nil, srunA_b, stepR, contB_mk, r0, r1, r2, regC, sop, unw, strip, sev, tg, tset, tput, needs, opNeeds, sBin, ibin, shiftOp, gb, gslot, gdst, onth, wants, sPick, selC, sLoad, sStore, sExtract, sIndex, sNew, sAlloc, sFill, sBuild, sCall, cellsAt, hget, hset, hd1, vcells, one, splice, holeAt, idxAt, pushAt, nth, intsEq, drawSt, preL, chkL, stp, nxtB_mk, pref_0, pref_b, allocOp, holes, lg, List.length_cons, List.length_nil, List.cons_append, List.nil_append, List.append_nil, List.map_cons, List.map_nil, List.take_succ_cons, List.take_zero, List.take_nil, List.drop_succ_cons, List.drop_zero, List.drop_nil, List.all_cons, List.all_nil, List.getElem?_cons_zero, List.getElem?_cons_succ, true_and, and_self, or_true, implies_true, eq_self, Bool.false_eq_true, Bool.not_true, Bool.not_false, Bool.and_self, Bool.cond_false, decide_true, Nat.zero_add, Nat.le_refl, Value.oneCell', ↓reduceIte, Nat.reduceAdd, Nat.reduceLT, Int.reduceLT, Int.reduceLE, Int.reduceToNat, Int.reduceAdd, tk27, ts27, ta27, tk30, ts30, ta30, tk41, ts41, ta41, tz41, tpl41, te71, te91]
      refine hN none 2 _ _ (by omega) (by simp only; omega) ?_
      simp only [NwO, Nw, t10, h10, zC, zN, junks, ri, c2, NwO, Nw, wk, vwks, vwk1, hwk, bwk, sc, scs, lg, List.length_cons, List.length_nil, List.cons_append, List.nil_append, true_and, and_true, and_self, implies_true, eq_self, Bool.and_self, decide_true, Nat.zero_add, Nat.le_refl, Nat.reduceAdd, Nat.reduceLT, Nat.reduceLeDiff] <;> (and_intros <;> first | rfl | (intro k hk; (rcases k with _ | _ | _ | k <;> first | rfl | omega)))
    · simp only [t10, h10, junks, pl10, c2, ri, eng, litSt, srunA_nil, srunA_b, stepR, contB_mk, r0, regC, sop, unw, strip, sev, tg, tset, tput, needs, opNeeds, sBin, ibin, shiftOp, selC, lg, List.cons_append, List.nil_append, true_and, and_self, or_true, eq_self, Bool.false_eq_true, decide_false, Int.reduceLT]
      refine hX _ _ _ (by simp) ?_
      simp only [popF, pl10, ΓV, ΓL, c16, eng, litSt, srunA_nil, srunA_b, stepR, contB_mk, r0, regC, sop, unw, strip, sev, tg, tset, tput, needs, opNeeds, popF, exitC, sCall, List.map_nil, true_and, and_self, eq_self, Nat.reduceBEq]
      exact hF _ _ _ ⟨trivial, by simp only [Try.f10, rb, retP, sResults, sRes1, resK, retV, vwk, vwk1, hwk, sc, tg, List.length_nil, and_self, eq_self, Nat.le_refl]⟩
end Go.Proofs.Ytmnpnnegnlhemaa.Eng
