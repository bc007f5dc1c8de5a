/- The law CommandBack is true of the given program at every input: the engine's contract of the law's function, lifted to the given row. No condition. -/
import Derived.Test.YtmnpnnegnlhemaaGd
import Derived.Test.YtmnpnnegnlhemaaGe
import Derived.Test.YtmnpnnegnlhemaaGf
import Derived.Test.YtmnpnnegnlhemaaRows
import Derived.Test.YtmnpnnegnlhemaaGb
namespace Go.Proofs.Ytmnpnnegnlhemaa.Eng
open Go

theorem wait_small {T S : Int} (hT : 1 ≤ T ∧ T ≤ 12) (hS : 0 ≤ S ∧ S ≤ 1000) : wait T S ≤ 100 := by
  have h2 := Int.mul_le_mul hT.2 (show 1000 + S ≤ 2000 by omega) (by omega) (by decide)
  unfold wait
  generalize hq : T * (1000 + S) = q at *
  omega
/-- What holds behind j ticks of the centre. -/
structure BackI (W : Int) (j : Nat) (c : Cen) : Prop where
  le : (j : Int) ≤ W
  wait : c.wait = W
  since0 : 0 ≤ c.since
  since : c.since ≤ c.now
  now : c.now ≤ 1000000 + j
  gone : c.node ≠ 0 → c.since + j ≤ c.now ∧ (1 ≤ j → c.now < c.since + W)
theorem Run.back0 {p : Nat} {T S : Int} {t : Nat} {w : Wd} (h : Run p T S t w) (ht : (t : Int) ≤ 1000000 := by omega) (hW : 0 ≤ Eng.wait T S := by omega) : BackI (Eng.wait T S) 0 w.c :=
  ⟨by omega, h.base.wait, h.base.since0, h.base.since, by have := h.base.now; omega, fun _ => ⟨by have := h.base.since; omega, fun q => absurd q (by decide)⟩⟩
theorem BackI.full {W : Int} {j : Nat} {c : Cen} (h : BackI W j c) (hW : 1 ≤ W) (hj : decide ((j : Int) < W) = false) : c.holds = true := by
  have h1 := h.le
  have h2 := h.gone
  have hj' : ¬ (j : Int) < W := of_decide_eq_false hj
  unfold Cen.holds
  rw [decide_eq_true_eq]
  by_cases q : c.node = 0
  · exact q
  · obtain ⟨q1, q2⟩ := h2 q
    have := q2 (by omega)
    omega
theorem BackI.tick {W : Int} {j : Nat} {c : Cen} (h : BackI W j c) (hW : 1 ≤ W ∧ W ≤ 1000000) (hj : (j : Int) < W) : BackI W (j + 1) c.tick := by
  obtain ⟨h1, h2, h3, h4, h5, h6⟩ := h
  have e1 : IntKind.i64.wrap (c.now + 1) = c.now + 1 := w64 (by omega) (by omega)
  have e2 : IntKind.i64.wrap (c.since + c.wait) = c.since + W := by rw [h2]; exact w64 (by omega) (by omega)
  unfold Cen.tick
  cases ho : c.out with
  | true =>
    simp only [if_true]
    refine ⟨by omega, h2, Int.le_refl _, ?_, ?_, fun q => absurd rfl q⟩
    · show (0 : Int) ≤ IntKind.i64.wrap (c.now + 1); rw [e1]; omega
    · show IntKind.i64.wrap (c.now + 1) ≤ _; rw [e1]; omega
  | false =>
    simp only [Bool.false_eq_true, if_false]
    refine ⟨by omega, h2, h3, ?_, ?_, fun q => ?_⟩
    · show c.since ≤ IntKind.i64.wrap (c.now + 1); rw [e1]; omega
    · show IntKind.i64.wrap (c.now + 1) ≤ _; rw [e1]; omega
    · have q' : c.node ≠ 0 := q
      have := h6 q'
      unfold Cen.out at ho
      rw [e1, e2] at ho
      have hn : decide (c.node = 0) = false := decide_eq_false q'
      rw [hn] at ho
      have ho' : ¬ c.since + W ≤ c.now + 1 := by simpa using ho
      refine ⟨?_, fun _ => ?_⟩
      · show c.since + ((j + 1 : Nat) : Int) ≤ IntKind.i64.wrap (c.now + 1); rw [e1]; omega
      · show IntKind.i64.wrap (c.now + 1) < c.since + W; rw [e1]; omega
end Go.Proofs.Ytmnpnnegnlhemaa.Eng
namespace Go.Proofs.Ytmnpnnegnlhemaa.Eng
open Go

def t7_1 (v : Value) (i : Nat) : List SV := [.junk, .raw v, .ptr 10 0, .junk, .junk, .ptr 9 0, .raw (.bool true), ri (i : Int)] ++ junks 67
def h7_1 (w : Wd) (a b c : Int) : List AB := hW1 w ++ [.cells [.ptr 0 0, .lst 3 1 0 1, .lst 4 3 0 w.sl, .lst 5 1 0 1, .lst 6 1 0 1, ri w.slow] 75, .cells [.raw (.int .u8 a), .raw (.int .u8 b), .raw (.int .u8 c)] 69]
def t7b_1 (W : Int) (i : Nat) : List SV := [.junk, .junk, .junk, .junk, .junk, .ptr 9 0, .junk, .junk, ri W, ri 0, ri (i : Int)] ++ junks 64
def h7b_1 (w : Wd) (c : Cen) : List AB := hW1 { w with c := c } ++ [.cells [.ptr 0 0, .lst 3 1 0 1, .lst 4 3 0 w.sl, .lst 5 1 0 1, .lst 6 1 0 1, ri w.slow] 75]
set_option maxHeartbeats 4000000 in
set_option maxRecDepth 100000 in
theorem ok7_1 (E : Addr → Option Value) (a b c : Int) (aa : Option Addr) (n cap : Nat) (e0 e1 : Nat → Int) (hE : Evts E aa n e0 e1) (ha : (IntKind.i64.wrap a).tmod 3 = 0) (hb : 0 ≤ b ∧ b < 256) (hc : 0 ≤ c ∧ c < 256) :
    Ok Try.prog E 7 [.agg [.raw (.int .u8 a), .raw (.int .u8 b), .raw (.int .u8 c)], .raw (.slice aa n cap)] [] (rb true) [] := by
  refine ok_of_eng (pl := pl7) mixed (ΓV1_sound E) Try.func7 rfl rfl (by kernel_rfl) (by simp) 200 (fun F hF => ?_)
  cases hn : decide ((400 : Int) < n) with
  | true =>
    simp only [Try.f7, pl7, ΓV1, c16, hn, eng, litSt, srunA_nil, srunA_b, stepR, contB_mk, r0, regC, sop, unw, strip, sev, tg, tset, tput, undefs, needs, opNeeds, sBin, ibin, shiftOp, selC, sLen, sBox, sCall, sBuiltin, vcells, one, holeAt, idxAt, pushAt, List.length_cons, List.length_nil, List.cons_append, List.nil_append, List.map_cons, List.map_nil, List.all_cons, List.all_nil, true_and, and_self, or_true, eq_self, Bool.false_eq_true, Bool.and_self, Nat.zero_add, Value.oneCell', Nat.reduceAdd, Nat.reduceSub, te70]
    exact hF _ _ _ ⟨trivial, by simp only [Try.f7, rb, retP, sResults, sRes1, resK, retV, vwk, vwk1, hwk, sc, tg, List.length_nil, and_self, eq_self, Nat.le_refl]⟩
  | false =>
    have hn' : n ≤ 400 := by simp at hn; omega
    have hT := lT_le hb
    have hS := lS0_le hc
    have hT' : 1 ≤ lT b ∧ lT b ≤ 12 := ⟨hT.1, hT.2.1⟩
    have hW := wait_of hT' hS
    have hWs := wait_small hT' hS
    have hrl := rules_of hT' hS
    have hw1 : wt (lT b) (lS0 c) = wait (lT b) (lS0 c) := by unfold wt; rw [hrl]
    have hw2 : wte (lT b) (lS0 c) = 0 := by unfold wte; rw [hrl]
    have hT0 : IntKind.i64.wrap (1 + (IntKind.i64.wrap b).tmod 12) = lT b := rfl
    have hl : layOk1 a b c = True := eq_true ⟨ha, cenOk_of (by decide) hT' hS, nodeOk_of (by decide) hT'⟩
    simp only [Try.f7, pl7, ΓV1, c40_1, hl, eW0_1, w0_1, newC, newN, hn, ren, rens, encC, hW1, bN, lN, lg, ri, rb, renB, rens, ren, renEnts, sig, updH, eng, litSt, srunA_nil, srunA_b, stepR, contB_mk, r0, regC, sop, unw, strip, sev, tg, tset, tput, undefs, needs, opNeeds, sBin, ibin, shiftOp, selC, sLoad, sStore, sExtract, sLen, sNew, sAlloc, sBox, sCall, sBuiltin, cellsAt, hget, hset, vcells, one, splice, holeAt, idxAt, pushAt, lg, List.length_cons, List.length_nil, List.cons_append, List.nil_append, List.append_nil, List.map_cons, List.map_nil, List.take_succ_cons, List.take_zero, List.take_nil, List.drop_succ_cons, List.drop_zero, List.drop_nil, List.all_cons, List.all_nil, List.getElem?_cons_zero, List.getElem?_cons_succ, List.getElem?_nil, true_and, and_self, or_true, eq_self, Bool.false_eq_true, Bool.and_self, Nat.zero_add, Nat.add_zero, Nat.sub_zero, Nat.le_refl, Option.getD_none, Value.oneCell', Nat.reduceAdd, Nat.reduceSub, Int.reduceToNat, tk69, ts69, ta69, te70, tk75, ts75, tz75]
    refine ⟨Nat × Wd, fun x => t7_1 (.slice aa n cap) x.1, fun x => h7_1 x.2 a b c, fun x => x.1 ≤ n ∧ Run 1 (lT b) (lS0 c) x.1 x.2, fun x => n - x.1, (0, w0_1 (lT b) (lS0 c)), ⟨Nat.zero_le _, run0_1 hT' hS⟩, ⟨some [1, 2, 3, 4, 5, 6, 7, 8, 9, 10, 0], ?_⟩, ?_⟩
    · simp only [NwO, Nw, t7_1, h7_1, w0_1, newC, newN, hW1, encC, bN, lN, lg, junks, ri, rb, Int.natCast_zero, NwO, Nw, wk, renJ, renJs, mvH, hgetO, memB, posG, jp, renJB, renJEnts, vwks, vwk1, hwk, bwk, sc, scs, scEnts, lg, List.length_cons, List.length_nil, List.cons_append, List.nil_append, List.take_zero, true_and, and_true, and_self, implies_true, eq_self, Bool.and_self, decide_true, decide_false, Nat.zero_add, Nat.add_zero, Nat.le_refl, reduceCtorEq, Nat.reduceAdd, Nat.reduceLT, Nat.reduceLeDiff, Nat.reduceEqDiff, Int.reduceToNat] <;> (and_intros <;> first | rfl | (intro k hk; (rcases k with _ | _ | _ | k <;> first | rfl | omega)))
    · rintro ⟨i, w⟩ ⟨hi, hr⟩ F' hN hX
      cases hlt : decide ((i : Int) < n) with
      | false =>
        have hsl : w.slow = lS0 c := hr.base.slow
        simp only [t7_1, h7_1, junks, pl7, hlt, ri, eng, litSt, srunA_nil, srunA_b, stepR, contB_mk, r0, r1, r2, regC, sop, unw, strip, sev, tg, tset, tput, needs, opNeeds, sBin, ibin, shiftOp, gb, gslot, gdst, onth, wants, sPick, selC, sLen, sBuiltin, List.cons_append, List.nil_append, List.map_cons, List.map_nil, true_and, and_self, or_true, implies_true, eq_self, Bool.true_eq_false, Bool.false_eq_true, Bool.cond_true, ↓reduceIte, te70]
        refine hX _ _ _ (by simp) ?_
        simp only [popF, pl7, ΓV1, c12, hT0, hsl, hw1, hw2, cK, cM, hd1, encC, hW1, bN, lN, lg, cast3, ri, rb, eng, litSt, srunA_nil, srunA_b, stepR, contB_mk, r0, regC, sop, unw, strip, sev, tg, tset, tput, needs, opNeeds, sBin, ibin, shiftOp, popF, selC, exitC, sLoad, sExtract, sField, sIndex, sCall, sUn, sConv, cellsAt, hget, hd1, lg, List.length_cons, List.length_nil, List.cons_append, List.nil_append, List.map_cons, List.map_nil, List.take_succ_cons, List.take_zero, List.take_nil, List.drop_succ_cons, List.drop_zero, List.getElem?_cons_zero, List.getElem?_cons_succ, true_and, and_self, or_true, not_false_eq_true, eq_self, ne_eq, Bool.false_eq_true, Bool.not_true, Nat.zero_add, Nat.mul_one, Nat.le_refl, reduceCtorEq, Nat.reduceAdd, Nat.reduceLeDiff, Nat.reduceBEq, Int.reduceLT, Int.reduceLE, Int.reduceEq, Int.reduceToNat, tk3, ta3, ti3, tk5, ts5, ta5, ti5, tr69, tf75_5]
        refine ⟨Nat × Cen, fun x => t7b_1 (wait (lT b) (lS0 c)) x.1, fun x => h7b_1 w x.2, fun x => BackI (wait (lT b) (lS0 c)) x.1 x.2, fun x => (wait (lT b) (lS0 c)).toNat - x.1, (0, w.c), hr.back0, ⟨none, ?_⟩, ?_⟩
        · simp only [NwO, Nw, t7b_1, h7b_1, hsl, hW1, encC, bN, lN, lg, junks, ri, rb, Int.natCast_zero, NwO, Nw, wk, vwks, vwk1, hwk, bwk, sc, scs, scEnts, lg, List.length_cons, List.length_nil, List.cons_append, List.nil_append, true_and, and_true, and_self, implies_true, eq_self, Bool.and_self, decide_true, Nat.zero_add, Nat.le_refl, Nat.reduceAdd, Nat.reduceLT, Nat.reduceLeDiff] <;> (and_intros <;> first | rfl | (intro k hk; (rcases k with _ | _ | _ | k <;> first | rfl | omega)))
        · rintro ⟨j, c'⟩ hI F2 hN2 hX2
          have hcon : F2 = F2 := rfl
          cases hlt2 : decide ((j : Int) < wait (lT b) (lS0 c)) with
          | false =>
            have hh := hI.full hW.1.1 hlt2
            simp only [t7b_1, h7b_1, junks, pl7, ΓV1, hlt2, hh, cK, onK, decC2, ivn, hd1, cellOf, lstN, lstF, encC, hW1, bN, lN, lg, Cen.eta, ri, rb, eng, litSt, srunA_nil, srunA_b, stepR, contB_mk, r0, r1, r2, regC, sop, unw, strip, sev, tg, tset, tput, needs, opNeeds, sBin, ibin, shiftOp, gb, gslot, gdst, onth, wants, sPick, selC, sLoad, sField, sCall, sUn, cellsAt, hget, hd1, lg, List.length_cons, List.length_nil, List.cons_append, List.nil_append, List.map_cons, List.map_nil, List.take_succ_cons, List.take_zero, List.drop_succ_cons, List.drop_zero, true_and, and_self, or_true, implies_true, imp_self, not_false_eq_true, eq_self, ne_eq, Bool.false_eq_true, Bool.not_true, Bool.cond_false, Nat.zero_add, Nat.add_zero, reduceCtorEq, ↓reduceIte, Nat.reduceAdd, Nat.reduceLeDiff, tk27, ta27, tf75_0]
            refine hX2 _ _ _ (by simp) ?_
            simp only [popF, pl7, ΓV1, c16, hh, cK, onK, decC2, ivn, hd1, cellOf, lstN, lstF, encC, Cen.eta, ri, rb, eng, litSt, srunA_nil, srunA_b, stepR, contB_mk, r0, r1, r2, regC, sop, unw, strip, sev, tg, tset, tput, needs, opNeeds, sBin, ibin, shiftOp, gb, gslot, gdst, onth, wants, sPick, popF, exitC, sLoad, sField, sCall, cellsAt, hget, hd1, List.length_cons, List.length_nil, List.cons_append, List.nil_append, List.map_cons, List.map_nil, List.take_succ_cons, List.take_zero, List.drop_succ_cons, List.drop_zero, true_and, and_self, or_true, implies_true, not_false_eq_true, eq_self, ne_eq, Bool.true_eq_false, Bool.false_eq_true, Bool.cond_true, decide_true, Nat.zero_add, Nat.add_zero, reduceCtorEq, ↓reduceIte, Nat.reduceAdd, Nat.reduceLeDiff, Nat.reduceBEq, tk27, ta27, tf75_0]
            exact hF _ _ _ ⟨trivial, by simp only [Try.f7, rb, retP, sResults, sRes1, resK, retV, vwk, vwk1, hwk, sc, tg, List.length_nil, and_self, eq_self, Nat.le_refl]⟩
          | true =>
            cases hh : c'.holds with
            | true =>
              simp only [t7b_1, h7b_1, junks, pl7, ΓV1, hlt2, hh, cK, onK, decC2, ivn, hd1, cellOf, lstN, lstF, encC, hW1, bN, lN, lg, Cen.eta, ri, rb, eng, litSt, srunA_nil, srunA_b, stepR, contB_mk, r0, r1, r2, regC, sop, unw, strip, sev, tg, tset, tput, needs, opNeeds, sBin, ibin, shiftOp, gb, gslot, gdst, onth, wants, sPick, selC, sLoad, sField, sCall, sUn, cellsAt, hget, hd1, lg, List.length_cons, List.length_nil, List.cons_append, List.nil_append, List.map_cons, List.map_nil, List.take_succ_cons, List.take_zero, List.drop_succ_cons, List.drop_zero, true_and, and_self, or_true, implies_true, not_false_eq_true, eq_self, ne_eq, Bool.true_eq_false, Bool.false_eq_true, Bool.not_true, Bool.cond_true, Nat.zero_add, Nat.add_zero, reduceCtorEq, ↓reduceIte, Nat.reduceAdd, Nat.reduceLeDiff, tk27, ta27, tf75_0]
              refine hX2 _ _ _ (by simp) ?_
              simp only [popF, pl7, ΓV1, c16, hh, cK, onK, decC2, ivn, hd1, cellOf, lstN, lstF, encC, Cen.eta, ri, rb, eng, litSt, srunA_nil, srunA_b, stepR, contB_mk, r0, r1, r2, regC, sop, unw, strip, sev, tg, tset, tput, needs, opNeeds, sBin, ibin, shiftOp, gb, gslot, gdst, onth, wants, sPick, popF, exitC, sLoad, sField, sCall, cellsAt, hget, hd1, List.length_cons, List.length_nil, List.cons_append, List.nil_append, List.map_cons, List.map_nil, List.take_succ_cons, List.take_zero, List.drop_succ_cons, List.drop_zero, true_and, and_self, or_true, implies_true, not_false_eq_true, eq_self, ne_eq, Bool.true_eq_false, Bool.false_eq_true, Bool.cond_true, decide_true, Nat.zero_add, Nat.add_zero, reduceCtorEq, ↓reduceIte, Nat.reduceAdd, Nat.reduceLeDiff, Nat.reduceBEq, tk27, ta27, tf75_0]
              exact hF _ _ _ ⟨trivial, by simp only [Try.f7, rb, retP, sResults, sRes1, resK, retV, vwk, vwk1, hwk, sc, tg, List.length_nil, and_self, eq_self, Nat.le_refl]⟩
            | false =>
              have hj : (j : Int) < wait (lT b) (lS0 c) := of_decide_eq_true hlt2
              have hw : IntKind.i64.wrap ((j : Int) + 1) = j + 1 := wrap1 (by omega) (by omega)
              simp only [t7b_1, h7b_1, junks, pl7, ΓV1, hlt2, hh, hw, cK, onK, decC2, ivn, hd1, cellOf, lstN, lstF, encC, hW1, bN, lN, lg, Cen.eta, ri, rb, eng, litSt, srunA_nil, srunA_b, stepR, contB_mk, r0, r1, r2, regC, sop, unw, strip, sev, tg, tset, tput, needs, opNeeds, sBin, ibin, shiftOp, gb, gslot, gdst, onth, wants, sPick, selC, sLoad, sField, sCall, sUn, cellsAt, hget, hd1, lg, List.length_cons, List.length_nil, List.cons_append, List.nil_append, List.map_cons, List.map_nil, List.take_succ_cons, List.take_zero, List.drop_succ_cons, List.drop_zero, true_and, and_self, or_true, implies_true, not_false_eq_true, eq_self, ne_eq, Bool.true_eq_false, Bool.false_eq_true, Bool.not_false, Bool.cond_true, Nat.zero_add, Nat.add_zero, reduceCtorEq, ↓reduceIte, Nat.reduceAdd, Nat.reduceLeDiff, tk27, ta27, tf75_0]
              refine hN2 none (j + 1, c'.tick) _ _ (hI.tick hW.1 hj) (by simp only; omega) ?_
              simp only [NwO, Nw, t7b_1, h7b_1, hW1, encC, bN, lN, lg, junks, ri, rb, Int.natCast_add, Int.natCast_one, NwO, Nw, wk, vwks, vwk1, hwk, bwk, sc, scs, scEnts, lg, List.length_cons, List.length_nil, List.cons_append, List.nil_append, true_and, and_true, and_self, implies_true, eq_self, Bool.and_self, decide_true, Nat.zero_add, Nat.le_refl, Nat.reduceAdd, Nat.reduceLT, Nat.reduceLeDiff] <;> (and_intros <;> first | rfl | (intro k hk; (rcases k with _ | _ | _ | k <;> first | rfl | omega)))
      | true =>
        have hil : i < n := by simp at hlt; omega
        obtain ⟨bb, o, rfl, hcell⟩ := hE.1 (by omega)
        obtain ⟨c0, c1⟩ := hcell i hil
        have hby := hE.2 i hil
        have hlt' : ((i : Int) < n) = True := by simp; omega
        have hw : IntKind.i64.wrap ((i : Int) + 1) = i + 1 := wrap1 (by omega) (by omega)
        have r := hr.step (by decide) hT' hS (by omega) (what := e0 i) hby.1
        have hfit : Fit 1 w = True := eq_true (hr.fit (by decide) hT' hS (by omega))
        have hb0 : (0 ≤ e1 i) = True := eq_true hby.1
        have hb1 : (e1 i < 256) = True := eq_true hby.2
        have hdn := hr.rest
        simp only [t7_1, h7_1, junks, pl7, ΓV1, onHap1, preHap1, decV1, hU0_1, tU1, lS, eWs, decC2, ivn, lof, lln, el0, el1, el2, hd1, cellOf, lstN, lstF, encC, eW, hW1, bN, lN, decN2, lg, Cen.eta, Nod.eta, etaL1 w (hdn 1 (by decide) (by decide)) (hdn 2 (by decide) (by decide)), hlt', c0, c1, hw, hfit, hb0, hb1, ri, rb, ↓engE, drawE_mk, eng, litSt, srunA_nil, srunA_b, stepR, contB_mk, r0, r1, r2, regC, sop, unw, strip, sev, tg, tset, tput, needs, opNeeds, sBin, ibin, shiftOp, gb, gslot, gdst, onth, wants, sPick, selC, sLoad, sStore, sExtract, sIndex, sLen, sCall, sBuiltin, cellsAt, roCells, hget, hset, hd1, vcells, one, splice, drawSt, preL, chkL, stp, nxtB_mk, pref_0, pref_b, allocOp, holes, lg, List.length_cons, List.length_nil, List.cons_append, List.nil_append, List.append_nil, List.map_cons, List.map_nil, List.take_succ_cons, List.take_zero, List.take_nil, List.drop_succ_cons, List.drop_zero, List.drop_nil, List.all_cons, List.all_nil, List.getElem?_cons_zero, List.getElem?_cons_succ, true_and, and_self, or_true, implies_true, eq_self, Bool.true_eq_false, Bool.false_eq_true, Bool.and_self, Bool.cond_true, decide_true, Nat.zero_add, Nat.le_refl, Int.toNat_natCast, Int.natCast_nonneg, Option.getD_some, Option.isSome_some, Value.oneCell', ↓reduceIte, Nat.reduceAdd, te70, tk75, ts75, ta75, tk80, ts80, ta80]
        refine hN (some [0, 1, 2, 3, 11, 5, 6, 7, 12, 9, 10]) (i + 1, w.step 1 (e0 i) (e1 i)) _ _ ⟨by simp only; omega, r⟩ (by simp only; omega) ?_
        simp only [NwO, Nw, t7_1, h7_1, hW1, encC, bN, lN, lg, junks, ri, rb, Int.natCast_add, Int.natCast_one, NwO, Nw, wk, renJ, renJs, mvH, hgetO, memB, posG, jp, renJB, renJEnts, vwks, vwk1, hwk, bwk, sc, scs, scEnts, lg, List.length_cons, List.length_nil, List.cons_append, List.nil_append, List.take_zero, true_and, and_true, and_self, implies_true, eq_self, Bool.and_self, decide_true, decide_false, Nat.zero_add, Nat.le_refl, reduceCtorEq, Nat.reduceAdd, Nat.reduceLT, Nat.reduceLeDiff, Nat.reduceEqDiff] <;> (and_intros <;> first | rfl | (intro k hk; (rcases k with _ | _ | _ | k <;> first | rfl | omega)))
end Go.Proofs.Ytmnpnnegnlhemaa.Eng
namespace Go.Proofs.Ytmnpnnegnlhemaa.Eng
open Go

def t7_2 (v : Value) (i : Nat) : List SV := [.junk, .raw v, .ptr 12 0, .junk, .junk, .ptr 11 0, .raw (.bool true), ri (i : Int)] ++ junks 67
def h7_2 (w : Wd) (a b c : Int) : List AB := hW2 w ++ [.cells [.ptr 0 0, .lst 3 1 0 2, .lst 4 3 0 w.sl, .lst 5 1 0 2, .lst 6 1 0 2, ri w.slow] 75, .cells [.raw (.int .u8 a), .raw (.int .u8 b), .raw (.int .u8 c)] 69]
def t7b_2 (W : Int) (i : Nat) : List SV := [.junk, .junk, .junk, .junk, .junk, .ptr 11 0, .junk, .junk, ri W, ri 0, ri (i : Int)] ++ junks 64
def h7b_2 (w : Wd) (c : Cen) : List AB := hW2 { w with c := c } ++ [.cells [.ptr 0 0, .lst 3 1 0 2, .lst 4 3 0 w.sl, .lst 5 1 0 2, .lst 6 1 0 2, ri w.slow] 75]
set_option maxHeartbeats 4000000 in
set_option maxRecDepth 100000 in
theorem ok7_2 (E : Addr → Option Value) (a b c : Int) (aa : Option Addr) (n cap : Nat) (e0 e1 : Nat → Int) (hE : Evts E aa n e0 e1) (ha : (IntKind.i64.wrap a).tmod 3 = 1) (hb : 0 ≤ b ∧ b < 256) (hc : 0 ≤ c ∧ c < 256) :
    Ok Try.prog E 7 [.agg [.raw (.int .u8 a), .raw (.int .u8 b), .raw (.int .u8 c)], .raw (.slice aa n cap)] [] (rb true) [] := by
  refine ok_of_eng (pl := pl7) mixed (ΓV2_sound E) Try.func7 rfl rfl (by kernel_rfl) (by simp) 200 (fun F hF => ?_)
  cases hn : decide ((400 : Int) < n) with
  | true =>
    simp only [Try.f7, pl7, ΓV2, c16, hn, eng, litSt, srunA_nil, srunA_b, stepR, contB_mk, r0, regC, sop, unw, strip, sev, tg, tset, tput, undefs, needs, opNeeds, sBin, ibin, shiftOp, selC, sLen, sBox, sCall, sBuiltin, vcells, one, holeAt, idxAt, pushAt, List.length_cons, List.length_nil, List.cons_append, List.nil_append, List.map_cons, List.map_nil, List.all_cons, List.all_nil, true_and, and_self, or_true, eq_self, Bool.false_eq_true, Bool.and_self, Nat.zero_add, Value.oneCell', Nat.reduceAdd, Nat.reduceSub, te70]
    exact hF _ _ _ ⟨trivial, by simp only [Try.f7, rb, retP, sResults, sRes1, resK, retV, vwk, vwk1, hwk, sc, tg, List.length_nil, and_self, eq_self, Nat.le_refl]⟩
  | false =>
    have hn' : n ≤ 400 := by simp at hn; omega
    have hT := lT_le hb
    have hS := lS0_le hc
    have hT' : 1 ≤ lT b ∧ lT b ≤ 12 := ⟨hT.1, hT.2.1⟩
    have hW := wait_of hT' hS
    have hWs := wait_small hT' hS
    have hrl := rules_of hT' hS
    have hw1 : wt (lT b) (lS0 c) = wait (lT b) (lS0 c) := by unfold wt; rw [hrl]
    have hw2 : wte (lT b) (lS0 c) = 0 := by unfold wte; rw [hrl]
    have hT0 : IntKind.i64.wrap (1 + (IntKind.i64.wrap b).tmod 12) = lT b := rfl
    have hl : layOk2 a b c = True := eq_true ⟨ha, cenOk_of (by decide) hT' hS, nodeOk_of (by decide) hT', nodeOk_of (by decide) hT'⟩
    simp only [Try.f7, pl7, ΓV2, c40_2, hl, eW0_2, w0_2, newC, newN, hn, ren, rens, encC, hW2, bN, lN, lg, ri, rb, renB, rens, ren, renEnts, sig, updH, eng, litSt, srunA_nil, srunA_b, stepR, contB_mk, r0, regC, sop, unw, strip, sev, tg, tset, tput, undefs, needs, opNeeds, sBin, ibin, shiftOp, selC, sLoad, sStore, sExtract, sLen, sNew, sAlloc, sBox, sCall, sBuiltin, cellsAt, hget, hset, vcells, one, splice, holeAt, idxAt, pushAt, lg, List.length_cons, List.length_nil, List.cons_append, List.nil_append, List.append_nil, List.map_cons, List.map_nil, List.take_succ_cons, List.take_zero, List.take_nil, List.drop_succ_cons, List.drop_zero, List.drop_nil, List.all_cons, List.all_nil, List.getElem?_cons_zero, List.getElem?_cons_succ, List.getElem?_nil, true_and, and_self, or_true, eq_self, Bool.false_eq_true, Bool.and_self, Nat.zero_add, Nat.add_zero, Nat.sub_zero, Nat.le_refl, Option.getD_none, Value.oneCell', Nat.reduceAdd, Nat.reduceSub, Int.reduceToNat, tk69, ts69, ta69, te70, tk75, ts75, tz75]
    refine ⟨Nat × Wd, fun x => t7_2 (.slice aa n cap) x.1, fun x => h7_2 x.2 a b c, fun x => x.1 ≤ n ∧ Run 2 (lT b) (lS0 c) x.1 x.2, fun x => n - x.1, (0, w0_2 (lT b) (lS0 c)), ⟨Nat.zero_le _, run0_2 hT' hS⟩, ⟨some [1, 2, 3, 4, 5, 6, 7, 8, 9, 10, 11, 12, 0], ?_⟩, ?_⟩
    · simp only [NwO, Nw, t7_2, h7_2, w0_2, newC, newN, hW2, encC, bN, lN, lg, junks, ri, rb, Int.natCast_zero, NwO, Nw, wk, renJ, renJs, mvH, hgetO, memB, posG, jp, renJB, renJEnts, vwks, vwk1, hwk, bwk, sc, scs, scEnts, lg, List.length_cons, List.length_nil, List.cons_append, List.nil_append, List.take_zero, true_and, and_true, and_self, implies_true, eq_self, Bool.and_self, decide_true, decide_false, Nat.zero_add, Nat.add_zero, Nat.le_refl, reduceCtorEq, Nat.reduceAdd, Nat.reduceLT, Nat.reduceLeDiff, Nat.reduceEqDiff, Int.reduceToNat] <;> (and_intros <;> first | rfl | (intro k hk; (rcases k with _ | _ | _ | k <;> first | rfl | omega)))
    · rintro ⟨i, w⟩ ⟨hi, hr⟩ F' hN hX
      cases hlt : decide ((i : Int) < n) with
      | false =>
        have hsl : w.slow = lS0 c := hr.base.slow
        simp only [t7_2, h7_2, junks, pl7, hlt, ri, eng, litSt, srunA_nil, srunA_b, stepR, contB_mk, r0, r1, r2, regC, sop, unw, strip, sev, tg, tset, tput, needs, opNeeds, sBin, ibin, shiftOp, gb, gslot, gdst, onth, wants, sPick, selC, sLen, sBuiltin, List.cons_append, List.nil_append, List.map_cons, List.map_nil, true_and, and_self, or_true, implies_true, eq_self, Bool.true_eq_false, Bool.false_eq_true, Bool.cond_true, ↓reduceIte, te70]
        refine hX _ _ _ (by simp) ?_
        simp only [popF, pl7, ΓV2, c12, hT0, hsl, hw1, hw2, cK, cM, hd1, encC, hW2, bN, lN, lg, cast3, ri, rb, eng, litSt, srunA_nil, srunA_b, stepR, contB_mk, r0, regC, sop, unw, strip, sev, tg, tset, tput, needs, opNeeds, sBin, ibin, shiftOp, popF, selC, exitC, sLoad, sExtract, sField, sIndex, sCall, sUn, sConv, cellsAt, hget, hd1, lg, List.length_cons, List.length_nil, List.cons_append, List.nil_append, List.map_cons, List.map_nil, List.take_succ_cons, List.take_zero, List.take_nil, List.drop_succ_cons, List.drop_zero, List.getElem?_cons_zero, List.getElem?_cons_succ, true_and, and_self, or_true, not_false_eq_true, eq_self, ne_eq, Bool.false_eq_true, Bool.not_true, Nat.zero_add, Nat.mul_one, Nat.le_refl, reduceCtorEq, Nat.reduceAdd, Nat.reduceLeDiff, Nat.reduceBEq, Int.reduceLT, Int.reduceLE, Int.reduceEq, Int.reduceToNat, tk3, ta3, ti3, tk5, ts5, ta5, ti5, tr69, tf75_5]
        refine ⟨Nat × Cen, fun x => t7b_2 (wait (lT b) (lS0 c)) x.1, fun x => h7b_2 w x.2, fun x => BackI (wait (lT b) (lS0 c)) x.1 x.2, fun x => (wait (lT b) (lS0 c)).toNat - x.1, (0, w.c), hr.back0, ⟨none, ?_⟩, ?_⟩
        · simp only [NwO, Nw, t7b_2, h7b_2, hsl, hW2, encC, bN, lN, lg, junks, ri, rb, Int.natCast_zero, NwO, Nw, wk, vwks, vwk1, hwk, bwk, sc, scs, scEnts, lg, List.length_cons, List.length_nil, List.cons_append, List.nil_append, true_and, and_true, and_self, implies_true, eq_self, Bool.and_self, decide_true, Nat.zero_add, Nat.le_refl, Nat.reduceAdd, Nat.reduceLT, Nat.reduceLeDiff] <;> (and_intros <;> first | rfl | (intro k hk; (rcases k with _ | _ | _ | k <;> first | rfl | omega)))
        · rintro ⟨j, c'⟩ hI F2 hN2 hX2
          have hcon : F2 = F2 := rfl
          cases hlt2 : decide ((j : Int) < wait (lT b) (lS0 c)) with
          | false =>
            have hh := hI.full hW.1.1 hlt2
            simp only [t7b_2, h7b_2, junks, pl7, ΓV2, hlt2, hh, cK, onK, decC2, ivn, hd1, cellOf, lstN, lstF, encC, hW2, bN, lN, lg, Cen.eta, ri, rb, eng, litSt, srunA_nil, srunA_b, stepR, contB_mk, r0, r1, r2, regC, sop, unw, strip, sev, tg, tset, tput, needs, opNeeds, sBin, ibin, shiftOp, gb, gslot, gdst, onth, wants, sPick, selC, sLoad, sField, sCall, sUn, cellsAt, hget, hd1, lg, List.length_cons, List.length_nil, List.cons_append, List.nil_append, List.map_cons, List.map_nil, List.take_succ_cons, List.take_zero, List.drop_succ_cons, List.drop_zero, true_and, and_self, or_true, implies_true, imp_self, not_false_eq_true, eq_self, ne_eq, Bool.false_eq_true, Bool.not_true, Bool.cond_false, Nat.zero_add, Nat.add_zero, reduceCtorEq, ↓reduceIte, Nat.reduceAdd, Nat.reduceLeDiff, tk27, ta27, tf75_0]
            refine hX2 _ _ _ (by simp) ?_
            simp only [popF, pl7, ΓV2, c16, hh, cK, onK, decC2, ivn, hd1, cellOf, lstN, lstF, encC, Cen.eta, ri, rb, eng, litSt, srunA_nil, srunA_b, stepR, contB_mk, r0, r1, r2, regC, sop, unw, strip, sev, tg, tset, tput, needs, opNeeds, sBin, ibin, shiftOp, gb, gslot, gdst, onth, wants, sPick, popF, exitC, sLoad, sField, sCall, cellsAt, hget, hd1, List.length_cons, List.length_nil, List.cons_append, List.nil_append, List.map_cons, List.map_nil, List.take_succ_cons, List.take_zero, List.drop_succ_cons, List.drop_zero, true_and, and_self, or_true, implies_true, not_false_eq_true, eq_self, ne_eq, Bool.true_eq_false, Bool.false_eq_true, Bool.cond_true, decide_true, Nat.zero_add, Nat.add_zero, reduceCtorEq, ↓reduceIte, Nat.reduceAdd, Nat.reduceLeDiff, Nat.reduceBEq, tk27, ta27, tf75_0]
            exact hF _ _ _ ⟨trivial, by simp only [Try.f7, rb, retP, sResults, sRes1, resK, retV, vwk, vwk1, hwk, sc, tg, List.length_nil, and_self, eq_self, Nat.le_refl]⟩
          | true =>
            cases hh : c'.holds with
            | true =>
              simp only [t7b_2, h7b_2, junks, pl7, ΓV2, hlt2, hh, cK, onK, decC2, ivn, hd1, cellOf, lstN, lstF, encC, hW2, bN, lN, lg, Cen.eta, ri, rb, eng, litSt, srunA_nil, srunA_b, stepR, contB_mk, r0, r1, r2, regC, sop, unw, strip, sev, tg, tset, tput, needs, opNeeds, sBin, ibin, shiftOp, gb, gslot, gdst, onth, wants, sPick, selC, sLoad, sField, sCall, sUn, cellsAt, hget, hd1, lg, List.length_cons, List.length_nil, List.cons_append, List.nil_append, List.map_cons, List.map_nil, List.take_succ_cons, List.take_zero, List.drop_succ_cons, List.drop_zero, true_and, and_self, or_true, implies_true, not_false_eq_true, eq_self, ne_eq, Bool.true_eq_false, Bool.false_eq_true, Bool.not_true, Bool.cond_true, Nat.zero_add, Nat.add_zero, reduceCtorEq, ↓reduceIte, Nat.reduceAdd, Nat.reduceLeDiff, tk27, ta27, tf75_0]
              refine hX2 _ _ _ (by simp) ?_
              simp only [popF, pl7, ΓV2, c16, hh, cK, onK, decC2, ivn, hd1, cellOf, lstN, lstF, encC, Cen.eta, ri, rb, eng, litSt, srunA_nil, srunA_b, stepR, contB_mk, r0, r1, r2, regC, sop, unw, strip, sev, tg, tset, tput, needs, opNeeds, sBin, ibin, shiftOp, gb, gslot, gdst, onth, wants, sPick, popF, exitC, sLoad, sField, sCall, cellsAt, hget, hd1, List.length_cons, List.length_nil, List.cons_append, List.nil_append, List.map_cons, List.map_nil, List.take_succ_cons, List.take_zero, List.drop_succ_cons, List.drop_zero, true_and, and_self, or_true, implies_true, not_false_eq_true, eq_self, ne_eq, Bool.true_eq_false, Bool.false_eq_true, Bool.cond_true, decide_true, Nat.zero_add, Nat.add_zero, reduceCtorEq, ↓reduceIte, Nat.reduceAdd, Nat.reduceLeDiff, Nat.reduceBEq, tk27, ta27, tf75_0]
              exact hF _ _ _ ⟨trivial, by simp only [Try.f7, rb, retP, sResults, sRes1, resK, retV, vwk, vwk1, hwk, sc, tg, List.length_nil, and_self, eq_self, Nat.le_refl]⟩
            | false =>
              have hj : (j : Int) < wait (lT b) (lS0 c) := of_decide_eq_true hlt2
              have hw : IntKind.i64.wrap ((j : Int) + 1) = j + 1 := wrap1 (by omega) (by omega)
              simp only [t7b_2, h7b_2, junks, pl7, ΓV2, hlt2, hh, hw, cK, onK, decC2, ivn, hd1, cellOf, lstN, lstF, encC, hW2, bN, lN, lg, Cen.eta, ri, rb, eng, litSt, srunA_nil, srunA_b, stepR, contB_mk, r0, r1, r2, regC, sop, unw, strip, sev, tg, tset, tput, needs, opNeeds, sBin, ibin, shiftOp, gb, gslot, gdst, onth, wants, sPick, selC, sLoad, sField, sCall, sUn, cellsAt, hget, hd1, lg, List.length_cons, List.length_nil, List.cons_append, List.nil_append, List.map_cons, List.map_nil, List.take_succ_cons, List.take_zero, List.drop_succ_cons, List.drop_zero, true_and, and_self, or_true, implies_true, not_false_eq_true, eq_self, ne_eq, Bool.true_eq_false, Bool.false_eq_true, Bool.not_false, Bool.cond_true, Nat.zero_add, Nat.add_zero, reduceCtorEq, ↓reduceIte, Nat.reduceAdd, Nat.reduceLeDiff, tk27, ta27, tf75_0]
              refine hN2 none (j + 1, c'.tick) _ _ (hI.tick hW.1 hj) (by simp only; omega) ?_
              simp only [NwO, Nw, t7b_2, h7b_2, hW2, encC, bN, lN, lg, junks, ri, rb, Int.natCast_add, Int.natCast_one, NwO, Nw, wk, vwks, vwk1, hwk, bwk, sc, scs, scEnts, lg, List.length_cons, List.length_nil, List.cons_append, List.nil_append, true_and, and_true, and_self, implies_true, eq_self, Bool.and_self, decide_true, Nat.zero_add, Nat.le_refl, Nat.reduceAdd, Nat.reduceLT, Nat.reduceLeDiff] <;> (and_intros <;> first | rfl | (intro k hk; (rcases k with _ | _ | _ | k <;> first | rfl | omega)))
      | true =>
        have hil : i < n := by simp at hlt; omega
        obtain ⟨bb, o, rfl, hcell⟩ := hE.1 (by omega)
        obtain ⟨c0, c1⟩ := hcell i hil
        have hby := hE.2 i hil
        have hlt' : ((i : Int) < n) = True := by simp; omega
        have hw : IntKind.i64.wrap ((i : Int) + 1) = i + 1 := wrap1 (by omega) (by omega)
        have r := hr.step (by decide) hT' hS (by omega) (what := e0 i) hby.1
        have hfit : Fit 2 w = True := eq_true (hr.fit (by decide) hT' hS (by omega))
        have hb0 : (0 ≤ e1 i) = True := eq_true hby.1
        have hb1 : (e1 i < 256) = True := eq_true hby.2
        have hdn := hr.rest
        simp only [t7_2, h7_2, junks, pl7, ΓV2, onHap2, preHap2, decV2, hU0_2, tU2, lS, eWs, decC2, ivn, lof, lln, el0, el1, el2, hd1, cellOf, lstN, lstF, encC, eW, hW2, bN, lN, decN2, lg, Cen.eta, Nod.eta, etaL2 w (hdn 2 (by decide) (by decide)), hlt', c0, c1, hw, hfit, hb0, hb1, ri, rb, ↓engE, drawE_mk, eng, litSt, srunA_nil, srunA_b, stepR, contB_mk, r0, r1, r2, regC, sop, unw, strip, sev, tg, tset, tput, needs, opNeeds, sBin, ibin, shiftOp, gb, gslot, gdst, onth, wants, sPick, selC, sLoad, sStore, sExtract, sIndex, sLen, sCall, sBuiltin, cellsAt, roCells, hget, hset, hd1, vcells, one, splice, drawSt, preL, chkL, stp, nxtB_mk, pref_0, pref_b, allocOp, holes, lg, List.length_cons, List.length_nil, List.cons_append, List.nil_append, List.append_nil, List.map_cons, List.map_nil, List.take_succ_cons, List.take_zero, List.take_nil, List.drop_succ_cons, List.drop_zero, List.drop_nil, List.all_cons, List.all_nil, List.getElem?_cons_zero, List.getElem?_cons_succ, true_and, and_self, or_true, implies_true, eq_self, Bool.true_eq_false, Bool.false_eq_true, Bool.and_self, Bool.cond_true, decide_true, Nat.zero_add, Nat.le_refl, Int.toNat_natCast, Int.natCast_nonneg, Option.getD_some, Option.isSome_some, Value.oneCell', ↓reduceIte, Nat.reduceAdd, te70, tk75, ts75, ta75, tk80, ts80, ta80]
        refine hN (some [0, 1, 2, 3, 13, 5, 6, 7, 14, 9, 15, 11, 12]) (i + 1, w.step 2 (e0 i) (e1 i)) _ _ ⟨by simp only; omega, r⟩ (by simp only; omega) ?_
        simp only [NwO, Nw, t7_2, h7_2, hW2, encC, bN, lN, lg, junks, ri, rb, Int.natCast_add, Int.natCast_one, NwO, Nw, wk, renJ, renJs, mvH, hgetO, memB, posG, jp, renJB, renJEnts, vwks, vwk1, hwk, bwk, sc, scs, scEnts, lg, List.length_cons, List.length_nil, List.cons_append, List.nil_append, List.take_zero, true_and, and_true, and_self, implies_true, eq_self, Bool.and_self, decide_true, decide_false, Nat.zero_add, Nat.le_refl, reduceCtorEq, Nat.reduceAdd, Nat.reduceLT, Nat.reduceLeDiff, Nat.reduceEqDiff] <;> (and_intros <;> first | rfl | (intro k hk; (rcases k with _ | _ | _ | k <;> first | rfl | omega)))
end Go.Proofs.Ytmnpnnegnlhemaa.Eng
namespace Go.Proofs.Ytmnpnnegnlhemaa.Eng
open Go

def t7_3 (v : Value) (i : Nat) : List SV := [.junk, .raw v, .ptr 14 0, .junk, .junk, .ptr 13 0, .raw (.bool true), ri (i : Int)] ++ junks 67
def h7_3 (w : Wd) (a b c : Int) : List AB := hW3 w ++ [.cells [.ptr 0 0, .lst 3 1 0 3, .lst 4 3 0 w.sl, .lst 5 1 0 3, .lst 6 1 0 3, ri w.slow] 75, .cells [.raw (.int .u8 a), .raw (.int .u8 b), .raw (.int .u8 c)] 69]
def t7b_3 (W : Int) (i : Nat) : List SV := [.junk, .junk, .junk, .junk, .junk, .ptr 13 0, .junk, .junk, ri W, ri 0, ri (i : Int)] ++ junks 64
def h7b_3 (w : Wd) (c : Cen) : List AB := hW3 { w with c := c } ++ [.cells [.ptr 0 0, .lst 3 1 0 3, .lst 4 3 0 w.sl, .lst 5 1 0 3, .lst 6 1 0 3, ri w.slow] 75]
set_option maxHeartbeats 4000000 in
set_option maxRecDepth 100000 in
theorem ok7_3 (E : Addr → Option Value) (a b c : Int) (aa : Option Addr) (n cap : Nat) (e0 e1 : Nat → Int) (hE : Evts E aa n e0 e1) (ha : (IntKind.i64.wrap a).tmod 3 = 2) (hb : 0 ≤ b ∧ b < 256) (hc : 0 ≤ c ∧ c < 256) :
    Ok Try.prog E 7 [.agg [.raw (.int .u8 a), .raw (.int .u8 b), .raw (.int .u8 c)], .raw (.slice aa n cap)] [] (rb true) [] := by
  refine ok_of_eng (pl := pl7) mixed (ΓV3_sound E) Try.func7 rfl rfl (by kernel_rfl) (by simp) 200 (fun F hF => ?_)
  cases hn : decide ((400 : Int) < n) with
  | true =>
    simp only [Try.f7, pl7, ΓV3, c16, hn, eng, litSt, srunA_nil, srunA_b, stepR, contB_mk, r0, regC, sop, unw, strip, sev, tg, tset, tput, undefs, needs, opNeeds, sBin, ibin, shiftOp, selC, sLen, sBox, sCall, sBuiltin, vcells, one, holeAt, idxAt, pushAt, List.length_cons, List.length_nil, List.cons_append, List.nil_append, List.map_cons, List.map_nil, List.all_cons, List.all_nil, true_and, and_self, or_true, eq_self, Bool.false_eq_true, Bool.and_self, Nat.zero_add, Value.oneCell', Nat.reduceAdd, Nat.reduceSub, te70]
    exact hF _ _ _ ⟨trivial, by simp only [Try.f7, rb, retP, sResults, sRes1, resK, retV, vwk, vwk1, hwk, sc, tg, List.length_nil, and_self, eq_self, Nat.le_refl]⟩
  | false =>
    have hn' : n ≤ 400 := by simp at hn; omega
    have hT := lT_le hb
    have hS := lS0_le hc
    have hT' : 1 ≤ lT b ∧ lT b ≤ 12 := ⟨hT.1, hT.2.1⟩
    have hW := wait_of hT' hS
    have hWs := wait_small hT' hS
    have hrl := rules_of hT' hS
    have hw1 : wt (lT b) (lS0 c) = wait (lT b) (lS0 c) := by unfold wt; rw [hrl]
    have hw2 : wte (lT b) (lS0 c) = 0 := by unfold wte; rw [hrl]
    have hT0 : IntKind.i64.wrap (1 + (IntKind.i64.wrap b).tmod 12) = lT b := rfl
    have hl : layOk3 a b c = True := eq_true ⟨ha, cenOk_of (by decide) hT' hS, nodeOk_of (by decide) hT', nodeOk_of (by decide) hT', nodeOk_of (by decide) hT'⟩
    simp only [Try.f7, pl7, ΓV3, c40_3, hl, eW0_3, w0_3, newC, newN, hn, ren, rens, encC, hW3, bN, lN, lg, ri, rb, renB, rens, ren, renEnts, sig, updH, eng, litSt, srunA_nil, srunA_b, stepR, contB_mk, r0, regC, sop, unw, strip, sev, tg, tset, tput, undefs, needs, opNeeds, sBin, ibin, shiftOp, selC, sLoad, sStore, sExtract, sLen, sNew, sAlloc, sBox, sCall, sBuiltin, cellsAt, hget, hset, vcells, one, splice, holeAt, idxAt, pushAt, lg, List.length_cons, List.length_nil, List.cons_append, List.nil_append, List.append_nil, List.map_cons, List.map_nil, List.take_succ_cons, List.take_zero, List.take_nil, List.drop_succ_cons, List.drop_zero, List.drop_nil, List.all_cons, List.all_nil, List.getElem?_cons_zero, List.getElem?_cons_succ, List.getElem?_nil, true_and, and_self, or_true, eq_self, Bool.false_eq_true, Bool.and_self, Nat.zero_add, Nat.add_zero, Nat.sub_zero, Nat.le_refl, Option.getD_none, Value.oneCell', Nat.reduceAdd, Nat.reduceSub, Int.reduceToNat, tk69, ts69, ta69, te70, tk75, ts75, tz75]
    refine ⟨Nat × Wd, fun x => t7_3 (.slice aa n cap) x.1, fun x => h7_3 x.2 a b c, fun x => x.1 ≤ n ∧ Run 3 (lT b) (lS0 c) x.1 x.2, fun x => n - x.1, (0, w0_3 (lT b) (lS0 c)), ⟨Nat.zero_le _, run0_3 hT' hS⟩, ⟨some [1, 2, 3, 4, 5, 6, 7, 8, 9, 10, 11, 12, 13, 14, 0], ?_⟩, ?_⟩
    · simp only [NwO, Nw, t7_3, h7_3, w0_3, newC, newN, hW3, encC, bN, lN, lg, junks, ri, rb, Int.natCast_zero, NwO, Nw, wk, renJ, renJs, mvH, hgetO, memB, posG, jp, renJB, renJEnts, vwks, vwk1, hwk, bwk, sc, scs, scEnts, lg, List.length_cons, List.length_nil, List.cons_append, List.nil_append, List.take_zero, true_and, and_true, and_self, implies_true, eq_self, Bool.and_self, decide_true, decide_false, Nat.zero_add, Nat.add_zero, Nat.le_refl, reduceCtorEq, Nat.reduceAdd, Nat.reduceLT, Nat.reduceLeDiff, Nat.reduceEqDiff, Int.reduceToNat] <;> (and_intros <;> first | rfl | (intro k hk; (rcases k with _ | _ | _ | k <;> first | rfl | omega)))
    · rintro ⟨i, w⟩ ⟨hi, hr⟩ F' hN hX
      cases hlt : decide ((i : Int) < n) with
      | false =>
        have hsl : w.slow = lS0 c := hr.base.slow
        simp only [t7_3, h7_3, junks, pl7, hlt, ri, eng, litSt, srunA_nil, srunA_b, stepR, contB_mk, r0, r1, r2, regC, sop, unw, strip, sev, tg, tset, tput, needs, opNeeds, sBin, ibin, shiftOp, gb, gslot, gdst, onth, wants, sPick, selC, sLen, sBuiltin, List.cons_append, List.nil_append, List.map_cons, List.map_nil, true_and, and_self, or_true, implies_true, eq_self, Bool.true_eq_false, Bool.false_eq_true, Bool.cond_true, ↓reduceIte, te70]
        refine hX _ _ _ (by simp) ?_
        simp only [popF, pl7, ΓV3, c12, hT0, hsl, hw1, hw2, cK, cM, hd1, encC, hW3, bN, lN, lg, cast3, ri, rb, eng, litSt, srunA_nil, srunA_b, stepR, contB_mk, r0, regC, sop, unw, strip, sev, tg, tset, tput, needs, opNeeds, sBin, ibin, shiftOp, popF, selC, exitC, sLoad, sExtract, sField, sIndex, sCall, sUn, sConv, cellsAt, hget, hd1, lg, List.length_cons, List.length_nil, List.cons_append, List.nil_append, List.map_cons, List.map_nil, List.take_succ_cons, List.take_zero, List.take_nil, List.drop_succ_cons, List.drop_zero, List.getElem?_cons_zero, List.getElem?_cons_succ, true_and, and_self, or_true, not_false_eq_true, eq_self, ne_eq, Bool.false_eq_true, Bool.not_true, Nat.zero_add, Nat.mul_one, Nat.le_refl, reduceCtorEq, Nat.reduceAdd, Nat.reduceLeDiff, Nat.reduceBEq, Int.reduceLT, Int.reduceLE, Int.reduceEq, Int.reduceToNat, tk3, ta3, ti3, tk5, ts5, ta5, ti5, tr69, tf75_5]
        refine ⟨Nat × Cen, fun x => t7b_3 (wait (lT b) (lS0 c)) x.1, fun x => h7b_3 w x.2, fun x => BackI (wait (lT b) (lS0 c)) x.1 x.2, fun x => (wait (lT b) (lS0 c)).toNat - x.1, (0, w.c), hr.back0, ⟨none, ?_⟩, ?_⟩
        · simp only [NwO, Nw, t7b_3, h7b_3, hsl, hW3, encC, bN, lN, lg, junks, ri, rb, Int.natCast_zero, NwO, Nw, wk, vwks, vwk1, hwk, bwk, sc, scs, scEnts, lg, List.length_cons, List.length_nil, List.cons_append, List.nil_append, true_and, and_true, and_self, implies_true, eq_self, Bool.and_self, decide_true, Nat.zero_add, Nat.le_refl, Nat.reduceAdd, Nat.reduceLT, Nat.reduceLeDiff] <;> (and_intros <;> first | rfl | (intro k hk; (rcases k with _ | _ | _ | k <;> first | rfl | omega)))
        · rintro ⟨j, c'⟩ hI F2 hN2 hX2
          have hcon : F2 = F2 := rfl
          cases hlt2 : decide ((j : Int) < wait (lT b) (lS0 c)) with
          | false =>
            have hh := hI.full hW.1.1 hlt2
            simp only [t7b_3, h7b_3, junks, pl7, ΓV3, hlt2, hh, cK, onK, decC2, ivn, hd1, cellOf, lstN, lstF, encC, hW3, bN, lN, lg, Cen.eta, ri, rb, eng, litSt, srunA_nil, srunA_b, stepR, contB_mk, r0, r1, r2, regC, sop, unw, strip, sev, tg, tset, tput, needs, opNeeds, sBin, ibin, shiftOp, gb, gslot, gdst, onth, wants, sPick, selC, sLoad, sField, sCall, sUn, cellsAt, hget, hd1, lg, List.length_cons, List.length_nil, List.cons_append, List.nil_append, List.map_cons, List.map_nil, List.take_succ_cons, List.take_zero, List.drop_succ_cons, List.drop_zero, true_and, and_self, or_true, implies_true, imp_self, not_false_eq_true, eq_self, ne_eq, Bool.false_eq_true, Bool.not_true, Bool.cond_false, Nat.zero_add, Nat.add_zero, reduceCtorEq, ↓reduceIte, Nat.reduceAdd, Nat.reduceLeDiff, tk27, ta27, tf75_0]
            refine hX2 _ _ _ (by simp) ?_
            simp only [popF, pl7, ΓV3, c16, hh, cK, onK, decC2, ivn, hd1, cellOf, lstN, lstF, encC, Cen.eta, ri, rb, eng, litSt, srunA_nil, srunA_b, stepR, contB_mk, r0, r1, r2, regC, sop, unw, strip, sev, tg, tset, tput, needs, opNeeds, sBin, ibin, shiftOp, gb, gslot, gdst, onth, wants, sPick, popF, exitC, sLoad, sField, sCall, cellsAt, hget, hd1, List.length_cons, List.length_nil, List.cons_append, List.nil_append, List.map_cons, List.map_nil, List.take_succ_cons, List.take_zero, List.drop_succ_cons, List.drop_zero, true_and, and_self, or_true, implies_true, not_false_eq_true, eq_self, ne_eq, Bool.true_eq_false, Bool.false_eq_true, Bool.cond_true, decide_true, Nat.zero_add, Nat.add_zero, reduceCtorEq, ↓reduceIte, Nat.reduceAdd, Nat.reduceLeDiff, Nat.reduceBEq, tk27, ta27, tf75_0]
            exact hF _ _ _ ⟨trivial, by simp only [Try.f7, rb, retP, sResults, sRes1, resK, retV, vwk, vwk1, hwk, sc, tg, List.length_nil, and_self, eq_self, Nat.le_refl]⟩
          | true =>
            cases hh : c'.holds with
            | true =>
              simp only [t7b_3, h7b_3, junks, pl7, ΓV3, hlt2, hh, cK, onK, decC2, ivn, hd1, cellOf, lstN, lstF, encC, hW3, bN, lN, lg, Cen.eta, ri, rb, eng, litSt, srunA_nil, srunA_b, stepR, contB_mk, r0, r1, r2, regC, sop, unw, strip, sev, tg, tset, tput, needs, opNeeds, sBin, ibin, shiftOp, gb, gslot, gdst, onth, wants, sPick, selC, sLoad, sField, sCall, sUn, cellsAt, hget, hd1, lg, List.length_cons, List.length_nil, List.cons_append, List.nil_append, List.map_cons, List.map_nil, List.take_succ_cons, List.take_zero, List.drop_succ_cons, List.drop_zero, true_and, and_self, or_true, implies_true, not_false_eq_true, eq_self, ne_eq, Bool.true_eq_false, Bool.false_eq_true, Bool.not_true, Bool.cond_true, Nat.zero_add, Nat.add_zero, reduceCtorEq, ↓reduceIte, Nat.reduceAdd, Nat.reduceLeDiff, tk27, ta27, tf75_0]
              refine hX2 _ _ _ (by simp) ?_
              simp only [popF, pl7, ΓV3, c16, hh, cK, onK, decC2, ivn, hd1, cellOf, lstN, lstF, encC, Cen.eta, ri, rb, eng, litSt, srunA_nil, srunA_b, stepR, contB_mk, r0, r1, r2, regC, sop, unw, strip, sev, tg, tset, tput, needs, opNeeds, sBin, ibin, shiftOp, gb, gslot, gdst, onth, wants, sPick, popF, exitC, sLoad, sField, sCall, cellsAt, hget, hd1, List.length_cons, List.length_nil, List.cons_append, List.nil_append, List.map_cons, List.map_nil, List.take_succ_cons, List.take_zero, List.drop_succ_cons, List.drop_zero, true_and, and_self, or_true, implies_true, not_false_eq_true, eq_self, ne_eq, Bool.true_eq_false, Bool.false_eq_true, Bool.cond_true, decide_true, Nat.zero_add, Nat.add_zero, reduceCtorEq, ↓reduceIte, Nat.reduceAdd, Nat.reduceLeDiff, Nat.reduceBEq, tk27, ta27, tf75_0]
              exact hF _ _ _ ⟨trivial, by simp only [Try.f7, rb, retP, sResults, sRes1, resK, retV, vwk, vwk1, hwk, sc, tg, List.length_nil, and_self, eq_self, Nat.le_refl]⟩
            | false =>
              have hj : (j : Int) < wait (lT b) (lS0 c) := of_decide_eq_true hlt2
              have hw : IntKind.i64.wrap ((j : Int) + 1) = j + 1 := wrap1 (by omega) (by omega)
              simp only [t7b_3, h7b_3, junks, pl7, ΓV3, hlt2, hh, hw, cK, onK, decC2, ivn, hd1, cellOf, lstN, lstF, encC, hW3, bN, lN, lg, Cen.eta, ri, rb, eng, litSt, srunA_nil, srunA_b, stepR, contB_mk, r0, r1, r2, regC, sop, unw, strip, sev, tg, tset, tput, needs, opNeeds, sBin, ibin, shiftOp, gb, gslot, gdst, onth, wants, sPick, selC, sLoad, sField, sCall, sUn, cellsAt, hget, hd1, lg, List.length_cons, List.length_nil, List.cons_append, List.nil_append, List.map_cons, List.map_nil, List.take_succ_cons, List.take_zero, List.drop_succ_cons, List.drop_zero, true_and, and_self, or_true, implies_true, not_false_eq_true, eq_self, ne_eq, Bool.true_eq_false, Bool.false_eq_true, Bool.not_false, Bool.cond_true, Nat.zero_add, Nat.add_zero, reduceCtorEq, ↓reduceIte, Nat.reduceAdd, Nat.reduceLeDiff, tk27, ta27, tf75_0]
              refine hN2 none (j + 1, c'.tick) _ _ (hI.tick hW.1 hj) (by simp only; omega) ?_
              simp only [NwO, Nw, t7b_3, h7b_3, hW3, encC, bN, lN, lg, junks, ri, rb, Int.natCast_add, Int.natCast_one, NwO, Nw, wk, vwks, vwk1, hwk, bwk, sc, scs, scEnts, lg, List.length_cons, List.length_nil, List.cons_append, List.nil_append, true_and, and_true, and_self, implies_true, eq_self, Bool.and_self, decide_true, Nat.zero_add, Nat.le_refl, Nat.reduceAdd, Nat.reduceLT, Nat.reduceLeDiff] <;> (and_intros <;> first | rfl | (intro k hk; (rcases k with _ | _ | _ | k <;> first | rfl | omega)))
      | true =>
        have hil : i < n := by simp at hlt; omega
        obtain ⟨bb, o, rfl, hcell⟩ := hE.1 (by omega)
        obtain ⟨c0, c1⟩ := hcell i hil
        have hby := hE.2 i hil
        have hlt' : ((i : Int) < n) = True := by simp; omega
        have hw : IntKind.i64.wrap ((i : Int) + 1) = i + 1 := wrap1 (by omega) (by omega)
        have r := hr.step (by decide) hT' hS (by omega) (what := e0 i) hby.1
        have hfit : Fit 3 w = True := eq_true (hr.fit (by decide) hT' hS (by omega))
        have hb0 : (0 ≤ e1 i) = True := eq_true hby.1
        have hb1 : (e1 i < 256) = True := eq_true hby.2
        have hdn := hr.rest
        simp only [t7_3, h7_3, junks, pl7, ΓV3, onHap3, preHap3, decV3, hU0_3, tU3, lS, eWs, decC2, ivn, lof, lln, el0, el1, el2, hd1, cellOf, lstN, lstF, encC, eW, hW3, bN, lN, decN2, lg, Cen.eta, Nod.eta, etaL3 w, hlt', c0, c1, hw, hfit, hb0, hb1, ri, rb, ↓engE, drawE_mk, eng, litSt, srunA_nil, srunA_b, stepR, contB_mk, r0, r1, r2, regC, sop, unw, strip, sev, tg, tset, tput, needs, opNeeds, sBin, ibin, shiftOp, gb, gslot, gdst, onth, wants, sPick, selC, sLoad, sStore, sExtract, sIndex, sLen, sCall, sBuiltin, cellsAt, roCells, hget, hset, hd1, vcells, one, splice, drawSt, preL, chkL, stp, nxtB_mk, pref_0, pref_b, allocOp, holes, lg, List.length_cons, List.length_nil, List.cons_append, List.nil_append, List.append_nil, List.map_cons, List.map_nil, List.take_succ_cons, List.take_zero, List.take_nil, List.drop_succ_cons, List.drop_zero, List.drop_nil, List.all_cons, List.all_nil, List.getElem?_cons_zero, List.getElem?_cons_succ, true_and, and_self, or_true, implies_true, eq_self, Bool.true_eq_false, Bool.false_eq_true, Bool.and_self, Bool.cond_true, decide_true, Nat.zero_add, Nat.le_refl, Int.toNat_natCast, Int.natCast_nonneg, Option.getD_some, Option.isSome_some, Value.oneCell', ↓reduceIte, Nat.reduceAdd, te70, tk75, ts75, ta75, tk80, ts80, ta80]
        refine hN (some [0, 1, 2, 3, 15, 5, 6, 7, 16, 9, 17, 11, 18, 13, 14]) (i + 1, w.step 3 (e0 i) (e1 i)) _ _ ⟨by simp only; omega, r⟩ (by simp only; omega) ?_
        simp only [NwO, Nw, t7_3, h7_3, hW3, encC, bN, lN, lg, junks, ri, rb, Int.natCast_add, Int.natCast_one, NwO, Nw, wk, renJ, renJs, mvH, hgetO, memB, posG, jp, renJB, renJEnts, vwks, vwk1, hwk, bwk, sc, scs, scEnts, lg, List.length_cons, List.length_nil, List.cons_append, List.nil_append, List.take_zero, true_and, and_true, and_self, implies_true, eq_self, Bool.and_self, decide_true, decide_false, Nat.zero_add, Nat.le_refl, reduceCtorEq, Nat.reduceAdd, Nat.reduceLT, Nat.reduceLeDiff, Nat.reduceEqDiff] <;> (and_intros <;> first | rfl | (intro k hk; (rcases k with _ | _ | _ | k <;> first | rfl | omega)))
end Go.Proofs.Ytmnpnnegnlhemaa.Eng
namespace Go.Proofs.Ytmnpnnegnlhemaa.Eng
open Go

theorem ok7 (E : Addr → Option Value) (a b c : Int) (aa : Option Addr) (n cap : Nat) (e0 e1 : Nat → Int) (hE : Evts E aa n e0 e1) (ha : 0 ≤ a ∧ a < 256) (hb : 0 ≤ b ∧ b < 256) (hc : 0 ≤ c ∧ c < 256) :
    Ok Try.prog E 7 [.agg [.raw (.int .u8 a), .raw (.int .u8 b), .raw (.int .u8 c)], .raw (.slice aa n cap)] [] (rb true) [] := by
  rcases three ha with h | h | h
  · exact ok7_1 E a b c aa n cap e0 e1 hE h hb hc
  · exact ok7_2 E a b c aa n cap e0 e1 hE h hb hc
  · exact ok7_3 E a b c aa n cap e0 e1 hE h hb hc
end Go.Proofs.Ytmnpnnegnlhemaa.Eng
namespace Go.Proofs.Ytmnpnnegnlhemaa.Eng
open Go Go.ChangeShapes Go.WideShapes Go.ChangeAt Go.RowKit

theorem own7 : ownKnob Try.prog.godebug = none := by kernel_rfl
theorem laidOut7 : laidOutB Try.prog = true := by kernel_rfl

set_option maxRecDepth 100000 in
theorem opened7 {W : World} {base : Nat} {H : Type} {enc : TypeId × Value → H} {args : Array Value} {ds : List (DataW H)} {p : List MemPlace}
    (hval : ∀ (j : Nat) t v, Try.f7.params[j]? = some t → args[j]? = some v → Value.okWide Try.prog W .any base t v)
    (hA : DataW.TrodAll enc Try.prog W 0 (fun _ => true) true Try.f7.params.toList args.toList ds p) :
    ∃ (svs : List SV) (H' : List AB), RL R0 svs args.toList ∧ Ok Try.prog W.cell? 7 svs [] (.raw (.bool true)) H' := by
  rw [Try.params7] at hA hval
  obtain ⟨v0, vs0, d0, ds0, p0, q0, hargs, rfl, rfl, h0, r0⟩ := trodAll_cons hA
  obtain ⟨v1, vs1, d1, ds1, p1, q1, rfl, rfl, rfl, h1, r1⟩ := trodAll_cons r0
  obtain ⟨rfl, rfl, rfl⟩ := trodAll_nil r1
  obtain rfl : args = #[v0, v1] := by cases args; simp_all
  clear hargs
  obtain ⟨cs, rfl, f⟩ := open_agg (n := 4) (ks := [.u8, .u8, .u8]) (by kernel_rfl) (by kernel_rfl) (hval 0 69 v0 rfl rfl) h0
  obtain ⟨x, l1, e1, w1, f⟩ := f.cons
  obtain ⟨y, l2, rfl, w2, f⟩ := f.cons
  obtain ⟨z, l3, rfl, w3, f⟩ := f.cons
  obtain rfl := f.nil
  obtain ⟨aa, n, cap, e0, e1', rfl, hev⟩ := evts_open h1 (okWide_slice Try.underlying70 (hval 1 70 v1 rfl rfl))
  exact ⟨[.agg [.raw (.int .u8 x), .raw (.int .u8 y), .raw (.int .u8 z)], .raw (.slice aa n cap)], [], RL_two (R_agg0 e1) (RL_one (R_raw0 _)), ok7 _ x y z aa n cap e0 e1' hev (u8_wf w1) (u8_wf w2) (u8_wf w3)⟩

set_option maxRecDepth 100000 in
theorem lifted7 (os : Os) (started : os.Started) (H : Type) (enc : TypeId × Value → H) :
    ReturnsInHanded {} Try.checked os 7 .any (Rows.commandBackSpec.pre6 enc Try.prog Try.f7 Rows.commandBackRow.domain false) (Rows.commandBackSpec.post enc Try.prog Try.f7 false true false false) := by
  refine returnsInHanded_of_change_sized (C := Try.checked) own7 started (by kernel_rfl) Try.func7
    (ChangeSpec.witness6 (enc := enc) (C := Try.checked) false ⟨#[], #[.agg #[.int .u8 0, .int .u8 0, .int .u8 0], .slice none 0 0], []⟩ 8 (by kernel_rfl) (by kernel_rfl) (by kernel_rfl) (by kernel_rfl)) ?_
  intro W base args ds gs before hval hW hcnd0 hsz0 _
  have hW' := hW
  have hlt : ∀ x ∈ before, x.block < W.heap.size := fun x hx => hW.lt x hx
  obtain ⟨p, q, hA, hV, rfl, hfz, hnd⟩ := hW
  obtain ⟨svs, H', hr, hok⟩ := opened7 hval hA
  have hA0 : DataW.TrodAll enc Try.prog W 0 (fun _ => true) true Try.f7.params.toList args.toList ds p := hA
  obtain ⟨rfl, rfl⟩ := trodVars_none hV
  refine (calls_of_ok hr hok).mono fun e W' ⟨he, bel⟩ => ?_
  subst he
  have hback := trodAll_below laidOut7 bel (by
    intro t ht
    rw [Try.params7] at ht
    revert t
    simp only [List.forall_mem_cons, List.not_mem_nil, false_imp_iff, implies_true, and_true]
    exact ⟨⟨by kernel_rfl, of_decide_eq_true (by kernel_rfl)⟩, ⟨by kernel_rfl, of_decide_eq_true (by kernel_rfl)⟩⟩) hA0 (fun x hx => hlt x (by simp [hx]))
  rw [Try.params7] at hA0
  obtain ⟨_, _, d0, ds0, _, _, _, rfl, _, _, r0⟩ := trodAll_cons hA0
  obtain ⟨_, _, d1, ds1, _, _, _, rfl, _, _, r1⟩ := trodAll_cons r0
  obtain ⟨_, rfl, _⟩ := trodAll_nil r1
  exact ⟨_, rfl, _, [], _, [], p, [], hW', trodAll_mk1 (shut_bool Try.underlying4 _), hback, rfl, bel.frame _, fun h => by cases h⟩

theorem commandBack_over : Rows.commandBackRow.holds Try.pinned (OpenSpec.ofChange Rows.commandBackSpec) :=
  OpenClaim.holds_of_wide 7 Try.f7 rfl rfl rfl rfl rfl rfl rfl ⟨rfl, rfl, rfl, rfl, rfl⟩ rfl rfl rfl rfl rfl (by kernel_rfl) Try.func7 (by kernel_rfl)
    (of_decide_eq_true (by kernel_rfl)) (by unfold Func.isWrapper; first | (rw [if_pos (by decide +kernel)]; kernel_rfl) | (rw [if_neg (by decide +kernel)]; exact ⟨rfl, rfl⟩))
    (fun os started H enc _ => lifted7 os started H enc)
end Go.Proofs.Ytmnpnnegnlhemaa.Eng
namespace Go.Proofs.Ytmnpnnegnlhemaa
/-- The given statement. -/
theorem commandBack_holds : Rows.CommandBackSaid := Eng.commandBack_over
#print axioms commandBack_holds
end Go.Proofs.Ytmnpnnegnlhemaa
