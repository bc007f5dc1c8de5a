/- The law CommandOne is true of the given program at every input: the engine's contract of the law's function, lifted to the given row. No condition. -/
import Derived.Test.YtmnpnnegnlhemaaGe
import Derived.Test.YtmnpnnegnlhemaaGd
import Derived.Test.YtmnpnnegnlhemaaGf
import Derived.Test.YtmnpnnegnlhemaaRows
import Derived.Test.YtmnpnnegnlhemaaGb
namespace Go.Proofs.Ytmnpnnegnlhemaa.Eng
open Go

def t6_1 (v : Value) (i : Nat) : List SV := [.junk, .raw v, .junk, .junk, .junk, .ptr 9 0, .junk, ri (i : Int)] ++ junks 40
def h6_1 (w : Wd) : List AB := hW1 w ++ [.cells [.ptr 0 0, .lst 3 1 0 1, .lst 4 3 0 w.sl, .lst 5 1 0 1, .lst 6 1 0 1, ri w.slow] 75]
set_option maxHeartbeats 4000000 in
set_option maxRecDepth 100000 in
theorem ok6_1 (E : Addr → Option Value) (a b c : Int) (aa : Option Addr) (n cap : Nat) (e0 e1 : Nat → Int) (hE : Evts E aa n e0 e1) (ha : (IntKind.i64.wrap a).tmod 3 = 0) (hb : 0 ≤ b ∧ b < 256) (hc : 0 ≤ c ∧ c < 256) :
    Ok Try.prog E 6 [.agg [.raw (.int .u8 a), .raw (.int .u8 b), .raw (.int .u8 c)], .raw (.slice aa n cap)] [] (rb true) [] := by
  refine ok_of_eng (pl := pl6) mixed (ΓV1_sound E) Try.func6 rfl rfl (by kernel_rfl) (by simp) 200 (fun F hF => ?_)
  cases hn : decide ((400 : Int) < n) with
  | true =>
    simp only [Try.f6, pl6, ΓV1, c16, hn, eng, litSt, srunA_nil, srunA_b, stepR, contB_mk, r0, regC, sop, unw, strip, sev, tg, tset, tput, undefs, needs, opNeeds, sBin, ibin, shiftOp, selC, sLen, sBox, sCall, sBuiltin, vcells, one, holeAt, idxAt, pushAt, List.length_cons, List.length_nil, List.cons_append, List.nil_append, List.map_cons, List.map_nil, List.all_cons, List.all_nil, true_and, and_self, or_true, eq_self, Bool.false_eq_true, Bool.and_self, Nat.zero_add, Value.oneCell', Nat.reduceAdd, Nat.reduceSub, te70]
    exact hF _ _ _ ⟨trivial, by simp only [Try.f6, rb, retP, sResults, sRes1, resK, retV, vwk, vwk1, hwk, sc, tg, List.length_nil, and_self, eq_self, Nat.le_refl]⟩
  | false =>
    have hn' : n ≤ 400 := by simp at hn; omega
    have hT := lT_le hb
    have hS := lS0_le hc
    have hT' : 1 ≤ lT b ∧ lT b ≤ 12 := ⟨hT.1, hT.2.1⟩
    have hl : layOk1 a b c = True := eq_true ⟨ha, cenOk_of (by decide) hT' hS, nodeOk_of (by decide) hT'⟩
    simp only [Try.f6, pl6, ΓV1, c40_1, hl, eW0_1, w0_1, newC, newN, onC, noneC, sigC, decC, Cen.holds, hn, cM, decC2, ivn, lix, mix, hd1, cellOf, lstN, lstF, nodupB, ren, rens, encC, hW1, bN, lN, lg, ri, rb, renB, rens, ren, renEnts, sig, subH, updH, eng, litSt, srunA_nil, srunA_b, stepR, contB_mk, r0, r1, r2, regC, sop, unw, strip, sev, tg, tset, tput, undefs, needs, opNeeds, sBin, ibin, shiftOp, gb, gslot, gdst, onth, wants, sPick, selC, sLoad, sStore, sExtract, sField, sLen, sNew, sAlloc, sBox, sCall, sBuiltin, sUn, cellsAt, hget, hset, hd1, vcells, one, splice, holeAt, idxAt, pushAt, lg, List.length_cons, List.length_nil, List.cons_append, List.nil_append, List.append_nil, List.map_cons, List.map_nil, List.take_succ_cons, List.take_zero, List.take_nil, List.drop_succ_cons, List.drop_zero, List.drop_nil, List.all_cons, List.all_nil, List.contains_cons, List.contains_nil, List.getElem?_cons_zero, List.getElem?_cons_succ, List.getElem?_nil, true_and, and_self, or_true, implies_true, not_false_eq_true, eq_self, ne_eq, Bool.false_eq_true, Bool.not_true, Bool.not_false, Bool.or_false, Bool.and_self, Bool.cond_false, decide_true, Nat.zero_add, Nat.add_zero, Nat.sub_zero, Nat.le_refl, Option.getD_some, Option.getD_none, reduceCtorEq, Value.oneCell', ↓reduceIte, Nat.reduceAdd, Nat.reduceSub, Nat.reduceLT, Nat.reduceLeDiff, Nat.reduceBEq, Int.reduceToNat, tk27, ta27, tk69, ts69, ta69, te70, tk75, ts75, tz75, tf75_0]
    refine ⟨Nat × Wd, fun x => t6_1 (.slice aa n cap) x.1, fun x => h6_1 x.2, fun x => x.1 ≤ n ∧ Run 1 (lT b) (lS0 c) x.1 x.2, fun x => n - x.1, (0, w0_1 (lT b) (lS0 c)), ⟨Nat.zero_le _, run0_1 hT' hS⟩, ⟨some [1, 2, 3, 4, 5, 6, 7, 8, 9, 10], ?_⟩, ?_⟩
    · simp only [NwO, Nw, t6_1, h6_1, w0_1, newC, newN, hW1, encC, bN, lN, lg, junks, ri, rb, Int.natCast_zero, NwO, Nw, wk, renJ, renJs, mvH, hgetO, memB, posG, jp, renJB, renJEnts, vwks, vwk1, hwk, bwk, sc, scs, scEnts, lg, List.length_cons, List.length_nil, List.cons_append, List.nil_append, List.take_zero, true_and, and_true, and_self, implies_true, eq_self, Bool.and_self, decide_true, decide_false, Nat.zero_add, Nat.add_zero, Nat.le_refl, reduceCtorEq, Nat.reduceAdd, Nat.reduceLT, Nat.reduceLeDiff, Nat.reduceEqDiff, Int.reduceToNat] <;> (and_intros <;> first | rfl | (intro k hk; (rcases k with _ | _ | _ | k <;> first | rfl | omega)))
    · rintro ⟨i, w⟩ ⟨hi, hr⟩ F' hN hX
      cases hlt : decide ((i : Int) < n) with
      | false =>
        simp only [t6_1, h6_1, junks, pl6, hlt, ri, eng, litSt, srunA_nil, srunA_b, stepR, contB_mk, r0, regC, sop, unw, strip, sev, tg, tset, tput, needs, opNeeds, sBin, ibin, shiftOp, selC, sLen, sBuiltin, List.cons_append, List.nil_append, List.map_cons, List.map_nil, true_and, and_self, or_true, eq_self, Bool.false_eq_true, te70]
        refine hX _ _ _ (by simp) ?_
        simp only [popF, pl6, ΓV1, c16, eng, litSt, srunA_nil, srunA_b, stepR, contB_mk, r0, regC, sop, unw, strip, sev, tg, tset, tput, needs, opNeeds, popF, exitC, sCall, List.map_nil, true_and, and_self, eq_self, Nat.reduceBEq]
        exact hF _ _ _ ⟨trivial, by simp only [Try.f6, rb, retP, sResults, sRes1, resK, retV, vwk, vwk1, hwk, sc, tg, List.length_nil, and_self, eq_self, Nat.le_refl]⟩
      | true =>
        have hil : i < n := by simp at hlt; omega
        obtain ⟨bb, o, rfl, hcell⟩ := hE.1 (by omega)
        obtain ⟨c0, c1⟩ := hcell i hil
        have hby := hE.2 i hil
        have hlt' : ((i : Int) < n) = True := by simp; omega
        have hw : IntKind.i64.wrap ((i : Int) + 1) = i + 1 := wrap1 (by omega) (by omega)
        have r := hr.step (by decide) hT' hS (by omega) (what := e0 i) hby.1
        have hfit : Fit 1 w = True := eq_true (hr.fit (by decide) hT' hS (by omega))
        have hb0 : (0 ≤ e1 i) = True := eq_true hby.1
        have hb1 : (e1 i < 256) = True := eq_true hby.2
        have hcnt := cntI_le (by decide) r
        have hdn := hr.rest
        simp only [t6_1, h6_1, junks, pl6, ΓV1, onHap1, preHap1, decV1, hU0_1, tU1, lS, eWs, onHold1, decU1, decC2, ivn, lix, lof, lln, el0, el1, el2, hd1, cellOf, lstN, lstF, encC, eW, hW1, bN, lN, decN2, lg, Cen.eta, Nod.eta, etaL1 w (hdn 1 (by decide) (by decide)) (hdn 2 (by decide) (by decide)), cntI_e1, hlt', c0, c1, hw, hfit, hb0, hb1, hcnt, ri, rb, ↓engE, drawE_mk, eng, litSt, srunA_nil, srunA_b, stepR, contB_mk, r0, r1, r2, regC, sop, unw, strip, sev, tg, tset, tput, needs, opNeeds, sBin, ibin, shiftOp, gb, gslot, gdst, onth, wants, sPick, selC, sLoad, sStore, sExtract, sIndex, sLen, sCall, sBuiltin, sUn, cellsAt, roCells, hget, hset, hd1, vcells, one, splice, drawSt, preL, chkL, stp, nxtB_mk, pref_0, pref_b, allocOp, holes, lg, List.length_cons, List.length_nil, List.cons_append, List.nil_append, List.append_nil, List.map_cons, List.map_nil, List.take_succ_cons, List.take_zero, List.take_nil, List.drop_succ_cons, List.drop_zero, List.drop_nil, List.all_cons, List.all_nil, List.getElem?_cons_zero, List.getElem?_cons_succ, true_and, and_self, or_true, implies_true, eq_self, Bool.false_eq_true, Bool.not_true, Bool.not_false, Bool.and_self, Bool.cond_false, decide_true, Nat.zero_add, Nat.le_refl, Int.toNat_natCast, Int.natCast_nonneg, Option.getD_some, Option.isSome_some, Value.oneCell', ↓reduceIte, Nat.reduceAdd, Nat.reduceSub, Nat.reduceLeDiff, te70, tk75, ts75, ta75, tk80, ts80, ta80]
        refine hN (some [0, 1, 2, 3, 10, 5, 6, 7, 11, 9]) (i + 1, w.step 1 (e0 i) (e1 i)) _ _ ⟨by simp only; omega, r⟩ (by simp only; omega) ?_
        simp only [NwO, Nw, t6_1, h6_1, hW1, encC, bN, lN, lg, junks, ri, rb, Int.natCast_add, Int.natCast_one, NwO, Nw, wk, renJ, renJs, mvH, hgetO, memB, posG, jp, renJB, renJEnts, vwks, vwk1, hwk, bwk, sc, scs, scEnts, lg, List.length_cons, List.length_nil, List.cons_append, List.nil_append, List.take_zero, true_and, and_true, and_self, implies_true, eq_self, Bool.and_self, decide_true, decide_false, Nat.zero_add, Nat.le_refl, reduceCtorEq, Nat.reduceAdd, Nat.reduceLT, Nat.reduceLeDiff, Nat.reduceEqDiff] <;> (and_intros <;> first | rfl | (intro k hk; (rcases k with _ | _ | _ | k <;> first | rfl | omega)))
end Go.Proofs.Ytmnpnnegnlhemaa.Eng
namespace Go.Proofs.Ytmnpnnegnlhemaa.Eng
open Go


def t6_2 (v : Value) (i : Nat) : List SV := [.junk, .raw v, .junk, .junk, .junk, .ptr 11 0, .junk, ri (i : Int)] ++ junks 40
def h6_2 (w : Wd) : List AB := hW2 w ++ [.cells [.ptr 0 0, .lst 3 1 0 2, .lst 4 3 0 w.sl, .lst 5 1 0 2, .lst 6 1 0 2, ri w.slow] 75]
set_option maxHeartbeats 4000000 in
set_option maxRecDepth 100000 in
theorem ok6_2 (E : Addr → Option Value) (a b c : Int) (aa : Option Addr) (n cap : Nat) (e0 e1 : Nat → Int) (hE : Evts E aa n e0 e1) (ha : (IntKind.i64.wrap a).tmod 3 = 1) (hb : 0 ≤ b ∧ b < 256) (hc : 0 ≤ c ∧ c < 256) :
    Ok Try.prog E 6 [.agg [.raw (.int .u8 a), .raw (.int .u8 b), .raw (.int .u8 c)], .raw (.slice aa n cap)] [] (rb true) [] := by
  refine ok_of_eng (pl := pl6) mixed (ΓV2_sound E) Try.func6 rfl rfl (by kernel_rfl) (by simp) 200 (fun F hF => ?_)
  cases hn : decide ((400 : Int) < n) with
  | true =>
    simp only [Try.f6, pl6, ΓV2, c16, hn, eng, litSt, srunA_nil, srunA_b, stepR, contB_mk, r0, regC, sop, unw, strip, sev, tg, tset, tput, undefs, needs, opNeeds, sBin, ibin, shiftOp, selC, sLen, sBox, sCall, sBuiltin, vcells, one, holeAt, idxAt, pushAt, List.length_cons, List.length_nil, List.cons_append, List.nil_append, List.map_cons, List.map_nil, List.all_cons, List.all_nil, true_and, and_self, or_true, eq_self, Bool.false_eq_true, Bool.and_self, Nat.zero_add, Value.oneCell', Nat.reduceAdd, Nat.reduceSub, te70]
    exact hF _ _ _ ⟨trivial, by simp only [Try.f6, rb, retP, sResults, sRes1, resK, retV, vwk, vwk1, hwk, sc, tg, List.length_nil, and_self, eq_self, Nat.le_refl]⟩
  | false =>
    have hn' : n ≤ 400 := by simp at hn; omega
    have hT := lT_le hb
    have hS := lS0_le hc
    have hT' : 1 ≤ lT b ∧ lT b ≤ 12 := ⟨hT.1, hT.2.1⟩
    have hl : layOk2 a b c = True := eq_true ⟨ha, cenOk_of (by decide) hT' hS, nodeOk_of (by decide) hT', nodeOk_of (by decide) hT'⟩
    simp only [Try.f6, pl6, ΓV2, c40_2, hl, eW0_2, w0_2, newC, newN, onC, noneC, sigC, decC, Cen.holds, hn, cM, decC2, ivn, lix, mix, hd1, cellOf, lstN, lstF, nodupB, ren, rens, encC, hW2, bN, lN, lg, ri, rb, renB, rens, ren, renEnts, sig, subH, updH, eng, litSt, srunA_nil, srunA_b, stepR, contB_mk, r0, r1, r2, regC, sop, unw, strip, sev, tg, tset, tput, undefs, needs, opNeeds, sBin, ibin, shiftOp, gb, gslot, gdst, onth, wants, sPick, selC, sLoad, sStore, sExtract, sField, sLen, sNew, sAlloc, sBox, sCall, sBuiltin, sUn, cellsAt, hget, hset, hd1, vcells, one, splice, holeAt, idxAt, pushAt, lg, List.length_cons, List.length_nil, List.cons_append, List.nil_append, List.append_nil, List.map_cons, List.map_nil, List.take_succ_cons, List.take_zero, List.take_nil, List.drop_succ_cons, List.drop_zero, List.drop_nil, List.all_cons, List.all_nil, List.contains_cons, List.contains_nil, List.getElem?_cons_zero, List.getElem?_cons_succ, List.getElem?_nil, true_and, and_self, or_true, implies_true, not_false_eq_true, eq_self, ne_eq, Bool.false_eq_true, Bool.not_true, Bool.not_false, Bool.or_false, Bool.and_self, Bool.cond_false, decide_true, Nat.zero_add, Nat.add_zero, Nat.sub_zero, Nat.le_refl, Option.getD_some, Option.getD_none, reduceCtorEq, Value.oneCell', ↓reduceIte, Nat.reduceAdd, Nat.reduceSub, Nat.reduceLT, Nat.reduceLeDiff, Nat.reduceBEq, Int.reduceToNat, tk27, ta27, tk69, ts69, ta69, te70, tk75, ts75, tz75, tf75_0]
    refine ⟨Nat × Wd, fun x => t6_2 (.slice aa n cap) x.1, fun x => h6_2 x.2, fun x => x.1 ≤ n ∧ Run 2 (lT b) (lS0 c) x.1 x.2, fun x => n - x.1, (0, w0_2 (lT b) (lS0 c)), ⟨Nat.zero_le _, run0_2 hT' hS⟩, ⟨some [1, 2, 3, 4, 5, 6, 7, 8, 9, 10, 11, 12], ?_⟩, ?_⟩
    · simp only [NwO, Nw, t6_2, h6_2, w0_2, newC, newN, hW2, encC, bN, lN, lg, junks, ri, rb, Int.natCast_zero, NwO, Nw, wk, renJ, renJs, mvH, hgetO, memB, posG, jp, renJB, renJEnts, vwks, vwk1, hwk, bwk, sc, scs, scEnts, lg, List.length_cons, List.length_nil, List.cons_append, List.nil_append, List.take_zero, true_and, and_true, and_self, implies_true, eq_self, Bool.and_self, decide_true, decide_false, Nat.zero_add, Nat.add_zero, Nat.le_refl, reduceCtorEq, Nat.reduceAdd, Nat.reduceLT, Nat.reduceLeDiff, Nat.reduceEqDiff, Int.reduceToNat] <;> (and_intros <;> first | rfl | (intro k hk; (rcases k with _ | _ | _ | k <;> first | rfl | omega)))
    · rintro ⟨i, w⟩ ⟨hi, hr⟩ F' hN hX
      cases hlt : decide ((i : Int) < n) with
      | false =>
        simp only [t6_2, h6_2, junks, pl6, hlt, ri, eng, litSt, srunA_nil, srunA_b, stepR, contB_mk, r0, regC, sop, unw, strip, sev, tg, tset, tput, needs, opNeeds, sBin, ibin, shiftOp, selC, sLen, sBuiltin, List.cons_append, List.nil_append, List.map_cons, List.map_nil, true_and, and_self, or_true, eq_self, Bool.false_eq_true, te70]
        refine hX _ _ _ (by simp) ?_
        simp only [popF, pl6, ΓV2, c16, eng, litSt, srunA_nil, srunA_b, stepR, contB_mk, r0, regC, sop, unw, strip, sev, tg, tset, tput, needs, opNeeds, popF, exitC, sCall, List.map_nil, true_and, and_self, eq_self, Nat.reduceBEq]
        exact hF _ _ _ ⟨trivial, by simp only [Try.f6, rb, retP, sResults, sRes1, resK, retV, vwk, vwk1, hwk, sc, tg, List.length_nil, and_self, eq_self, Nat.le_refl]⟩
      | true =>
        have hil : i < n := by simp at hlt; omega
        obtain ⟨bb, o, rfl, hcell⟩ := hE.1 (by omega)
        obtain ⟨c0, c1⟩ := hcell i hil
        have hby := hE.2 i hil
        have hlt' : ((i : Int) < n) = True := by simp; omega
        have hw : IntKind.i64.wrap ((i : Int) + 1) = i + 1 := wrap1 (by omega) (by omega)
        have r := hr.step (by decide) hT' hS (by omega) (what := e0 i) hby.1
        have hfit : Fit 2 w = True := eq_true (hr.fit (by decide) hT' hS (by omega))
        have hb0 : (0 ≤ e1 i) = True := eq_true hby.1
        have hb1 : (e1 i < 256) = True := eq_true hby.2
        have hcnt := cntI_le (by decide) r
        have hdn := hr.rest
        simp only [t6_2, h6_2, junks, pl6, ΓV2, onHap2, preHap2, decV2, hU0_2, tU2, lS, eWs, onHold2, decU2, decC2, ivn, lix, lof, lln, el0, el1, el2, hd1, cellOf, lstN, lstF, encC, eW, hW2, bN, lN, decN2, lg, Cen.eta, Nod.eta, etaL2 w (hdn 2 (by decide) (by decide)), cntI_e2, hlt', c0, c1, hw, hfit, hb0, hb1, hcnt, ri, rb, ↓engE, drawE_mk, eng, litSt, srunA_nil, srunA_b, stepR, contB_mk, r0, r1, r2, regC, sop, unw, strip, sev, tg, tset, tput, needs, opNeeds, sBin, ibin, shiftOp, gb, gslot, gdst, onth, wants, sPick, selC, sLoad, sStore, sExtract, sIndex, sLen, sCall, sBuiltin, sUn, cellsAt, roCells, hget, hset, hd1, vcells, one, splice, drawSt, preL, chkL, stp, nxtB_mk, pref_0, pref_b, allocOp, holes, lg, List.length_cons, List.length_nil, List.cons_append, List.nil_append, List.append_nil, List.map_cons, List.map_nil, List.take_succ_cons, List.take_zero, List.take_nil, List.drop_succ_cons, List.drop_zero, List.drop_nil, List.all_cons, List.all_nil, List.getElem?_cons_zero, List.getElem?_cons_succ, true_and, and_self, or_true, implies_true, eq_self, Bool.false_eq_true, Bool.not_true, Bool.not_false, Bool.and_self, Bool.cond_false, decide_true, Nat.zero_add, Nat.le_refl, Int.toNat_natCast, Int.natCast_nonneg, Option.getD_some, Option.isSome_some, Value.oneCell', ↓reduceIte, Nat.reduceAdd, Nat.reduceSub, Nat.reduceLeDiff, te70, tk75, ts75, ta75, tk80, ts80, ta80]
        refine hN (some [0, 1, 2, 3, 12, 5, 6, 7, 13, 9, 14, 11]) (i + 1, w.step 2 (e0 i) (e1 i)) _ _ ⟨by simp only; omega, r⟩ (by simp only; omega) ?_
        simp only [NwO, Nw, t6_2, h6_2, hW2, encC, bN, lN, lg, junks, ri, rb, Int.natCast_add, Int.natCast_one, NwO, Nw, wk, renJ, renJs, mvH, hgetO, memB, posG, jp, renJB, renJEnts, vwks, vwk1, hwk, bwk, sc, scs, scEnts, lg, List.length_cons, List.length_nil, List.cons_append, List.nil_append, List.take_zero, true_and, and_true, and_self, implies_true, eq_self, Bool.and_self, decide_true, decide_false, Nat.zero_add, Nat.le_refl, reduceCtorEq, Nat.reduceAdd, Nat.reduceLT, Nat.reduceLeDiff, Nat.reduceEqDiff] <;> (and_intros <;> first | rfl | (intro k hk; (rcases k with _ | _ | _ | k <;> first | rfl | omega)))
end Go.Proofs.Ytmnpnnegnlhemaa.Eng
namespace Go.Proofs.Ytmnpnnegnlhemaa.Eng
open Go


def t6_3 (v : Value) (i : Nat) : List SV := [.junk, .raw v, .junk, .junk, .junk, .ptr 13 0, .junk, ri (i : Int)] ++ junks 40
def h6_3 (w : Wd) : List AB := hW3 w ++ [.cells [.ptr 0 0, .lst 3 1 0 3, .lst 4 3 0 w.sl, .lst 5 1 0 3, .lst 6 1 0 3, ri w.slow] 75]
set_option maxHeartbeats 4000000 in
set_option maxRecDepth 100000 in
theorem ok6_3 (E : Addr → Option Value) (a b c : Int) (aa : Option Addr) (n cap : Nat) (e0 e1 : Nat → Int) (hE : Evts E aa n e0 e1) (ha : (IntKind.i64.wrap a).tmod 3 = 2) (hb : 0 ≤ b ∧ b < 256) (hc : 0 ≤ c ∧ c < 256) :
    Ok Try.prog E 6 [.agg [.raw (.int .u8 a), .raw (.int .u8 b), .raw (.int .u8 c)], .raw (.slice aa n cap)] [] (rb true) [] := by
  refine ok_of_eng (pl := pl6) mixed (ΓV3_sound E) Try.func6 rfl rfl (by kernel_rfl) (by simp) 200 (fun F hF => ?_)
  cases hn : decide ((400 : Int) < n) with
  | true =>
    simp only [Try.f6, pl6, ΓV3, c16, hn, eng, litSt, srunA_nil, srunA_b, stepR, contB_mk, r0, regC, sop, unw, strip, sev, tg, tset, tput, undefs, needs, opNeeds, sBin, ibin, shiftOp, selC, sLen, sBox, sCall, sBuiltin, vcells, one, holeAt, idxAt, pushAt, List.length_cons, List.length_nil, List.cons_append, List.nil_append, List.map_cons, List.map_nil, List.all_cons, List.all_nil, true_and, and_self, or_true, eq_self, Bool.false_eq_true, Bool.and_self, Nat.zero_add, Value.oneCell', Nat.reduceAdd, Nat.reduceSub, te70]
    exact hF _ _ _ ⟨trivial, by simp only [Try.f6, rb, retP, sResults, sRes1, resK, retV, vwk, vwk1, hwk, sc, tg, List.length_nil, and_self, eq_self, Nat.le_refl]⟩
  | false =>
    have hn' : n ≤ 400 := by simp at hn; omega
    have hT := lT_le hb
    have hS := lS0_le hc
    have hT' : 1 ≤ lT b ∧ lT b ≤ 12 := ⟨hT.1, hT.2.1⟩
    have hl : layOk3 a b c = True := eq_true ⟨ha, cenOk_of (by decide) hT' hS, nodeOk_of (by decide) hT', nodeOk_of (by decide) hT', nodeOk_of (by decide) hT'⟩
    simp only [Try.f6, pl6, ΓV3, c40_3, hl, eW0_3, w0_3, newC, newN, onC, noneC, sigC, decC, Cen.holds, hn, cM, decC2, ivn, lix, mix, hd1, cellOf, lstN, lstF, nodupB, ren, rens, encC, hW3, bN, lN, lg, ri, rb, renB, rens, ren, renEnts, sig, subH, updH, eng, litSt, srunA_nil, srunA_b, stepR, contB_mk, r0, r1, r2, regC, sop, unw, strip, sev, tg, tset, tput, undefs, needs, opNeeds, sBin, ibin, shiftOp, gb, gslot, gdst, onth, wants, sPick, selC, sLoad, sStore, sExtract, sField, sLen, sNew, sAlloc, sBox, sCall, sBuiltin, sUn, cellsAt, hget, hset, hd1, vcells, one, splice, holeAt, idxAt, pushAt, lg, List.length_cons, List.length_nil, List.cons_append, List.nil_append, List.append_nil, List.map_cons, List.map_nil, List.take_succ_cons, List.take_zero, List.take_nil, List.drop_succ_cons, List.drop_zero, List.drop_nil, List.all_cons, List.all_nil, List.contains_cons, List.contains_nil, List.getElem?_cons_zero, List.getElem?_cons_succ, List.getElem?_nil, true_and, and_self, or_true, implies_true, not_false_eq_true, eq_self, ne_eq, Bool.false_eq_true, Bool.not_true, Bool.not_false, Bool.or_false, Bool.and_self, Bool.cond_false, decide_true, Nat.zero_add, Nat.add_zero, Nat.sub_zero, Nat.le_refl, Option.getD_some, Option.getD_none, reduceCtorEq, Value.oneCell', ↓reduceIte, Nat.reduceAdd, Nat.reduceSub, Nat.reduceLT, Nat.reduceLeDiff, Nat.reduceBEq, Int.reduceToNat, tk27, ta27, tk69, ts69, ta69, te70, tk75, ts75, tz75, tf75_0]
    refine ⟨Nat × Wd, fun x => t6_3 (.slice aa n cap) x.1, fun x => h6_3 x.2, fun x => x.1 ≤ n ∧ Run 3 (lT b) (lS0 c) x.1 x.2, fun x => n - x.1, (0, w0_3 (lT b) (lS0 c)), ⟨Nat.zero_le _, run0_3 hT' hS⟩, ⟨some [1, 2, 3, 4, 5, 6, 7, 8, 9, 10, 11, 12, 13, 14], ?_⟩, ?_⟩
    · simp only [NwO, Nw, t6_3, h6_3, w0_3, newC, newN, hW3, encC, bN, lN, lg, junks, ri, rb, Int.natCast_zero, NwO, Nw, wk, renJ, renJs, mvH, hgetO, memB, posG, jp, renJB, renJEnts, vwks, vwk1, hwk, bwk, sc, scs, scEnts, lg, List.length_cons, List.length_nil, List.cons_append, List.nil_append, List.take_zero, true_and, and_true, and_self, implies_true, eq_self, Bool.and_self, decide_true, decide_false, Nat.zero_add, Nat.add_zero, Nat.le_refl, reduceCtorEq, Nat.reduceAdd, Nat.reduceLT, Nat.reduceLeDiff, Nat.reduceEqDiff, Int.reduceToNat] <;> (and_intros <;> first | rfl | (intro k hk; (rcases k with _ | _ | _ | k <;> first | rfl | omega)))
    · rintro ⟨i, w⟩ ⟨hi, hr⟩ F' hN hX
      cases hlt : decide ((i : Int) < n) with
      | false =>
        simp only [t6_3, h6_3, junks, pl6, hlt, ri, eng, litSt, srunA_nil, srunA_b, stepR, contB_mk, r0, regC, sop, unw, strip, sev, tg, tset, tput, needs, opNeeds, sBin, ibin, shiftOp, selC, sLen, sBuiltin, List.cons_append, List.nil_append, List.map_cons, List.map_nil, true_and, and_self, or_true, eq_self, Bool.false_eq_true, te70]
        refine hX _ _ _ (by simp) ?_
        simp only [popF, pl6, ΓV3, c16, eng, litSt, srunA_nil, srunA_b, stepR, contB_mk, r0, regC, sop, unw, strip, sev, tg, tset, tput, needs, opNeeds, popF, exitC, sCall, List.map_nil, true_and, and_self, eq_self, Nat.reduceBEq]
        exact hF _ _ _ ⟨trivial, by simp only [Try.f6, rb, retP, sResults, sRes1, resK, retV, vwk, vwk1, hwk, sc, tg, List.length_nil, and_self, eq_self, Nat.le_refl]⟩
      | true =>
        have hil : i < n := by simp at hlt; omega
        obtain ⟨bb, o, rfl, hcell⟩ := hE.1 (by omega)
        obtain ⟨c0, c1⟩ := hcell i hil
        have hby := hE.2 i hil
        have hlt' : ((i : Int) < n) = True := by simp; omega
        have hw : IntKind.i64.wrap ((i : Int) + 1) = i + 1 := wrap1 (by omega) (by omega)
        have r := hr.step (by decide) hT' hS (by omega) (what := e0 i) hby.1
        have hfit : Fit 3 w = True := eq_true (hr.fit (by decide) hT' hS (by omega))
        have hb0 : (0 ≤ e1 i) = True := eq_true hby.1
        have hb1 : (e1 i < 256) = True := eq_true hby.2
        have hcnt := cntI_le (by decide) r
        have hdn := hr.rest
        simp only [t6_3, h6_3, junks, pl6, ΓV3, onHap3, preHap3, decV3, hU0_3, tU3, lS, eWs, onHold3, decU3, decC2, ivn, lix, lof, lln, el0, el1, el2, hd1, cellOf, lstN, lstF, encC, eW, hW3, bN, lN, decN2, lg, Cen.eta, Nod.eta, etaL3 w, cntI_e3, hlt', c0, c1, hw, hfit, hb0, hb1, hcnt, ri, rb, ↓engE, drawE_mk, eng, litSt, srunA_nil, srunA_b, stepR, contB_mk, r0, r1, r2, regC, sop, unw, strip, sev, tg, tset, tput, needs, opNeeds, sBin, ibin, shiftOp, gb, gslot, gdst, onth, wants, sPick, selC, sLoad, sStore, sExtract, sIndex, sLen, sCall, sBuiltin, sUn, cellsAt, roCells, hget, hset, hd1, vcells, one, splice, drawSt, preL, chkL, stp, nxtB_mk, pref_0, pref_b, allocOp, holes, lg, List.length_cons, List.length_nil, List.cons_append, List.nil_append, List.append_nil, List.map_cons, List.map_nil, List.take_succ_cons, List.take_zero, List.take_nil, List.drop_succ_cons, List.drop_zero, List.drop_nil, List.all_cons, List.all_nil, List.getElem?_cons_zero, List.getElem?_cons_succ, true_and, and_self, or_true, implies_true, eq_self, Bool.false_eq_true, Bool.not_true, Bool.not_false, Bool.and_self, Bool.cond_false, decide_true, Nat.zero_add, Nat.le_refl, Int.toNat_natCast, Int.natCast_nonneg, Option.getD_some, Option.isSome_some, Value.oneCell', ↓reduceIte, Nat.reduceAdd, Nat.reduceSub, Nat.reduceLeDiff, te70, tk75, ts75, ta75, tk80, ts80, ta80]
        refine hN (some [0, 1, 2, 3, 14, 5, 6, 7, 15, 9, 16, 11, 17, 13]) (i + 1, w.step 3 (e0 i) (e1 i)) _ _ ⟨by simp only; omega, r⟩ (by simp only; omega) ?_
        simp only [NwO, Nw, t6_3, h6_3, hW3, encC, bN, lN, lg, junks, ri, rb, Int.natCast_add, Int.natCast_one, NwO, Nw, wk, renJ, renJs, mvH, hgetO, memB, posG, jp, renJB, renJEnts, vwks, vwk1, hwk, bwk, sc, scs, scEnts, lg, List.length_cons, List.length_nil, List.cons_append, List.nil_append, List.take_zero, true_and, and_true, and_self, implies_true, eq_self, Bool.and_self, decide_true, decide_false, Nat.zero_add, Nat.le_refl, reduceCtorEq, Nat.reduceAdd, Nat.reduceLT, Nat.reduceLeDiff, Nat.reduceEqDiff] <;> (and_intros <;> first | rfl | (intro k hk; (rcases k with _ | _ | _ | k <;> first | rfl | omega)))
end Go.Proofs.Ytmnpnnegnlhemaa.Eng
namespace Go.Proofs.Ytmnpnnegnlhemaa.Eng
open Go

theorem ok6 (E : Addr → Option Value) (a b c : Int) (aa : Option Addr) (n cap : Nat) (e0 e1 : Nat → Int) (hE : Evts E aa n e0 e1) (ha : 0 ≤ a ∧ a < 256) (hb : 0 ≤ b ∧ b < 256) (hc : 0 ≤ c ∧ c < 256) :
    Ok Try.prog E 6 [.agg [.raw (.int .u8 a), .raw (.int .u8 b), .raw (.int .u8 c)], .raw (.slice aa n cap)] [] (rb true) [] := by
  rcases three ha with h | h | h
  · exact ok6_1 E a b c aa n cap e0 e1 hE h hb hc
  · exact ok6_2 E a b c aa n cap e0 e1 hE h hb hc
  · exact ok6_3 E a b c aa n cap e0 e1 hE h hb hc
end Go.Proofs.Ytmnpnnegnlhemaa.Eng
namespace Go.Proofs.Ytmnpnnegnlhemaa.Eng
open Go Go.ChangeShapes Go.WideShapes Go.ChangeAt Go.RowKit

theorem own6 : ownKnob Try.prog.godebug = none := by kernel_rfl
theorem laidOut6 : laidOutB Try.prog = true := by kernel_rfl

set_option maxRecDepth 100000 in
theorem opened6 {W : World} {base : Nat} {H : Type} {enc : TypeId × Value → H} {args : Array Value} {ds : List (DataW H)} {p : List MemPlace}
    (hval : ∀ (j : Nat) t v, Try.f6.params[j]? = some t → args[j]? = some v → Value.okWide Try.prog W .any base t v)
    (hA : DataW.TrodAll enc Try.prog W 0 (fun _ => true) true Try.f6.params.toList args.toList ds p) :
    ∃ (svs : List SV) (H' : List AB), RL R0 svs args.toList ∧ Ok Try.prog W.cell? 6 svs [] (.raw (.bool true)) H' := by
  rw [Try.params6] at hA hval
  obtain ⟨v0, vs0, d0, ds0, p0, q0, hargs, rfl, rfl, h0, r0⟩ := trodAll_cons hA
  obtain ⟨v1, vs1, d1, ds1, p1, q1, rfl, rfl, rfl, h1, r1⟩ := trodAll_cons r0
  obtain ⟨rfl, rfl, rfl⟩ := trodAll_nil r1
  obtain rfl : args = #[v0, v1] := by cases args; simp_all
  clear hargs
  obtain ⟨cs, rfl, f⟩ := open_agg (n := 4) (ks := [.u8, .u8, .u8]) (by kernel_rfl) (by kernel_rfl) (hval 0 69 v0 rfl rfl) h0
  obtain ⟨x, l1, e1, w1, f⟩ := f.cons
  obtain ⟨y, l2, rfl, w2, f⟩ := f.cons
  obtain ⟨z, l3, rfl, w3, f⟩ := f.cons
  obtain rfl := f.nil
  obtain ⟨aa, n, cap, e0, e1', rfl, hev⟩ := evts_open h1 (okWide_slice Try.underlying70 (hval 1 70 v1 rfl rfl))
  exact ⟨[.agg [.raw (.int .u8 x), .raw (.int .u8 y), .raw (.int .u8 z)], .raw (.slice aa n cap)], [], RL_two (R_agg0 e1) (RL_one (R_raw0 _)), ok6 _ x y z aa n cap e0 e1' hev (u8_wf w1) (u8_wf w2) (u8_wf w3)⟩

set_option maxRecDepth 100000 in
theorem lifted6 (os : Os) (started : os.Started) (H : Type) (enc : TypeId × Value → H) :
    ReturnsInHanded {} Try.checked os 6 .any (Rows.commandOneSpec.pre6 enc Try.prog Try.f6 Rows.commandOneRow.domain false) (Rows.commandOneSpec.post enc Try.prog Try.f6 false true false false) := by
  refine returnsInHanded_of_change_sized (C := Try.checked) own6 started (by kernel_rfl) Try.func6
    (ChangeSpec.witness6 (enc := enc) (C := Try.checked) false ⟨#[], #[.agg #[.int .u8 0, .int .u8 0, .int .u8 0], .slice none 0 0], []⟩ 8 (by kernel_rfl) (by kernel_rfl) (by kernel_rfl) (by kernel_rfl)) ?_
  intro W base args ds gs before hval hW hcnd0 hsz0 _
  have hW' := hW
  have hlt : ∀ x ∈ before, x.block < W.heap.size := fun x hx => hW.lt x hx
  obtain ⟨p, q, hA, hV, rfl, hfz, hnd⟩ := hW
  obtain ⟨svs, H', hr, hok⟩ := opened6 hval hA
  have hA0 : DataW.TrodAll enc Try.prog W 0 (fun _ => true) true Try.f6.params.toList args.toList ds p := hA
  obtain ⟨rfl, rfl⟩ := trodVars_none hV
  refine (calls_of_ok hr hok).mono fun e W' ⟨he, bel⟩ => ?_
  subst he
  have hback := trodAll_below laidOut6 bel (by
    intro t ht
    rw [Try.params6] at ht
    revert t
    simp only [List.forall_mem_cons, List.not_mem_nil, false_imp_iff, implies_true, and_true]
    exact ⟨⟨by kernel_rfl, of_decide_eq_true (by kernel_rfl)⟩, ⟨by kernel_rfl, of_decide_eq_true (by kernel_rfl)⟩⟩) hA0 (fun x hx => hlt x (by simp [hx]))
  rw [Try.params6] at hA0
  obtain ⟨_, _, d0, ds0, _, _, _, rfl, _, _, r0⟩ := trodAll_cons hA0
  obtain ⟨_, _, d1, ds1, _, _, _, rfl, _, _, r1⟩ := trodAll_cons r0
  obtain ⟨_, rfl, _⟩ := trodAll_nil r1
  exact ⟨_, rfl, _, [], _, [], p, [], hW', trodAll_mk1 (shut_bool Try.underlying4 _), hback, rfl, bel.frame _, fun h => by cases h⟩

theorem commandOne_over : Rows.commandOneRow.holds Try.pinned (OpenSpec.ofChange Rows.commandOneSpec) :=
  OpenClaim.holds_of_wide 6 Try.f6 rfl rfl rfl rfl rfl rfl rfl ⟨rfl, rfl, rfl, rfl, rfl⟩ rfl rfl rfl rfl rfl (by kernel_rfl) Try.func6 (by kernel_rfl)
    (of_decide_eq_true (by kernel_rfl)) (by unfold Func.isWrapper; first | (rw [if_pos (by decide +kernel)]; kernel_rfl) | (rw [if_neg (by decide +kernel)]; exact ⟨rfl, rfl⟩))
    (fun os started H enc _ => lifted6 os started H enc)
end Go.Proofs.Ytmnpnnegnlhemaa.Eng
namespace Go.Proofs.Ytmnpnnegnlhemaa
/-- The given statement. -/
theorem commandOne_holds : Rows.CommandOneSaid := Eng.commandOne_over
#print axioms commandOne_holds
end Go.Proofs.Ytmnpnnegnlhemaa
