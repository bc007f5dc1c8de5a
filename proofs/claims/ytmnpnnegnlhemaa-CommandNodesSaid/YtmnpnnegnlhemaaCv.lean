/- The law on nodes, by the engine. -/
import Derived.Test.YtmnpnnegnlhemaaCu
namespace Go.Proofs.Ytmnpnnegnlhemaa.Eng
open Go

def t4 (v : Value) (i : Nat) : List SV := [.junk, .junk, .raw v, .junk, .junk, .junk, .junk, .ptr 0 0, .junk, .ptr 2 0, ri (i : Int)] ++ junks 130
def h4 (x : Nod) (r : RN) : List AB :=
  [.cells [ri x.now, rb true, ri x.number, ri x.term, ri x.en, ri x.last, .lst 1 2 x.off x.len] 96,
   .lst (x.off + x.len) 2 (fun k => [ri (x.an k), ri (x.av k)]) 110,
   .cells [ri r.number, ri r.term, ri r.clock, ri r.last, ri r.en, .lst 3 2 0 r.len] 39, bRN r]

def newRN (n t : Int) : RN := ⟨n, t, 0, 0, 0, 0, fun _ => 0, fun _ => 0⟩
theorem NR.new (n t : Int) : NR (newN n t) (newRN n t) := ⟨rfl, rfl, rfl, rfl, rfl, rfl, fun _ _ => rfl, fun _ _ => rfl⟩

theorem ask_len (x : Nod) : x.ask.len ≤ x.len + 1 := by
  unfold Nod.ask
  split
  · omega
  · simp [Nod.add]
theorem hear_len (x : Nod) (k n m : Int) : (x.hear k n m).len ≤ x.len := by
  unfold Nod.hear
  split
  · simp only; unfold Nod.takes; split <;> simp
  · omega
theorem ret_len (x : Nod) : x.ret.len ≤ x.len := by
  unfold Nod.ret
  split
  · omega
  · simp [Nod.fall]

def pl4 : Nat → Plan
  | 25 => [([], 23)]
  | _ => []
set_option maxHeartbeats 4000000 in
set_option maxRecDepth 100000 in
theorem ok4 (E : Addr → Option Value) (nu t : Int) (aa : Option Addr) (n cap : Nat) (a0 a1 a2 a3 a4 : Nat → Int) (hE : Acts E aa n a0 a1 a2 a3 a4) : Ok Try.prog E 4 [ri nu, ri t, .raw (.slice aa n cap)] [] (rb true) [] := by
  refine ok_of_eng (pl := pl4) mixed (ΓY_sound E) Try.func4 rfl rfl (by kernel_rfl) (by simp) 200 (fun F hF => ?_)
  cases hn : decide ((200 : Int) < n) with
  | true =>
    cases hc : nodeOk nu t <;>
    simp only [Try.f4, pl4, ΓY, ΓL, c16, cM, c14, hc, hn, newN, encN, ri, rb, renB, rens, ren, sig, updH, eng, litSt, srunA_nil, srunA_b, stepR, contB_mk, r0, r1, r2, regC, sop, unw, strip, sev, tg, tset, tput, undefs, needs, opNeeds, sBin, ibin, shiftOp, gb, gslot, gdst, onth, wants, sPick, selC, sExtract, sLen, sCall, sBuiltin, List.length_cons, List.length_nil, List.cons_append, List.nil_append, List.map_cons, List.map_nil, List.getElem?_cons_zero, List.getElem?_cons_succ, List.getElem?_nil, true_and, and_self, or_true, implies_true, imp_self, eq_self, Bool.true_eq_false, Bool.false_eq_true, Bool.not_true, Bool.not_false, Bool.cond_true, decide_true, decide_false, Nat.zero_add, Nat.add_zero, Nat.sub_zero, Option.getD_none, ↓reduceIte, Nat.reduceAdd, Nat.reduceSub, Int.reduceEq, tp30, te36] <;>
    exact hF _ _ _ ⟨trivial, by simp only [Try.f4, rb, retP, sResults, sRes1, resK, retV, vwk, vwk1, hwk, sc, tg, List.length_nil, and_self, eq_self, Nat.le_refl]⟩
  | false =>
    cases hc : nodeOk nu t with
    | false =>
      simp only [Try.f4, pl4, ΓY, ΓL, c16, cM, c14, hc, hn, ri, eng, litSt, srunA_nil, srunA_b, stepR, contB_mk, r0, r1, r2, regC, sop, unw, strip, sev, tg, tset, tput, undefs, needs, opNeeds, sBin, ibin, shiftOp, gb, gslot, gdst, onth, wants, sPick, selC, sExtract, sLen, sCall, sBuiltin, List.length_cons, List.length_nil, List.cons_append, List.nil_append, List.map_cons, List.map_nil, List.getElem?_cons_zero, List.getElem?_cons_succ, true_and, and_self, or_true, implies_true, imp_self, eq_self, Bool.true_eq_false, Bool.false_eq_true, Bool.not_true, Bool.not_false, Bool.cond_true, Bool.cond_false, decide_false, Nat.zero_add, ↓reduceIte, Nat.reduceAdd, Nat.reduceSub, Int.reduceEq, tp30, te36]
      exact hF _ _ _ ⟨trivial, by simp only [Try.f4, rb, retP, sResults, sRes1, resK, retV, vwk, vwk1, hwk, sc, tg, List.length_nil, and_self, eq_self, Nat.le_refl]⟩
    | true =>
      have hn' : n ≤ 200 := by simp at hn; omega
      simp only [Try.f4, pl4, ΓY, ΓL, cM, c14, hc, hn, encN, ri, rb, renB, rens, ren, sig, updH, eng, litSt, srunA_nil, srunA_b, stepR, contB_mk, r0, r1, r2, regC, sop, unw, strip, sev, tg, tset, tput, undefs, needs, opNeeds, sBin, ibin, shiftOp, gb, gslot, gdst, onth, wants, sPick, selC, sStore, sExtract, sLen, sNew, sAlloc, sFill, sBuild, sCall, sBuiltin, hget, hset, vcells, one, whole, splice, holeAt, idxAt, pushAt, nth, List.length_cons, List.length_nil, List.cons_append, List.nil_append, List.append_nil, List.map_cons, List.map_nil, List.take_succ_cons, List.take_zero, List.drop_succ_cons, List.drop_zero, List.drop_nil, List.all_cons, List.all_nil, List.getElem?_cons_zero, List.getElem?_cons_succ, List.getElem?_nil, true_and, and_self, or_true, implies_true, eq_self, Bool.false_eq_true, Bool.not_true, Bool.not_false, Bool.and_self, Bool.cond_false, decide_true, Nat.zero_add, Nat.add_zero, Nat.sub_zero, Nat.le_refl, Option.getD_none, Value.oneCell', ↓reduceIte, Nat.reduceAdd, Nat.reduceSub, Nat.reduceLeDiff, tp30, te36, tk39, ts39, tz39, tpl39]
      refine ⟨Nat × Nod × RN, fun x => t4 (.slice aa n cap) x.1, fun x => h4 x.2.1 x.2.2, fun x => x.1 ≤ n ∧ NR x.2.1 x.2.2 ∧ x.2.1.len ≤ x.1, fun x => n - x.1, (0, newN nu t, newRN nu t), ⟨Nat.zero_le _, NR.new nu t, Nat.le_refl _⟩, ⟨some [0, 1, 2, 9], ?_⟩, ?_⟩
      · simp only [NwO, Nw, t4, h4, junks, newN, newRN, bRN, ri, rb, Int.natCast_zero, NwO, Nw, wk, renJ, renJs, mvH, hgetO, memB, posG, jp, renJB, vwks, vwk1, hwk, bwk, sc, scs, List.length_cons, List.length_nil, List.cons_append, List.nil_append, List.take_zero, and_true, and_self, implies_true, eq_self, Bool.and_self, decide_true, decide_false, Nat.zero_add, Nat.add_zero, Nat.le_refl, reduceCtorEq, Nat.reduceAdd, Nat.reduceLT, Nat.reduceLeDiff, Nat.reduceEqDiff]
        rfl
      · rintro ⟨i, x, r⟩ ⟨hi, hr, hlen⟩ F' hN hX
        cases hlt : decide ((i : Int) < n) with
        | false =>
          simp only [t4, h4, junks, bRN, ri, rb, pl4, hlt, eng, litSt, srunA_nil, srunA_b, stepR, contB_mk, r0, regC, sop, unw, strip, sev, tg, tset, tput, needs, opNeeds, sBin, ibin, shiftOp, selC, sLen, sBuiltin, List.cons_append, List.nil_append, List.map_cons, List.map_nil, true_and, and_self, or_true, eq_self, Bool.false_eq_true, te36]
          refine hX _ _ _ (by simp) ?_
          simp only [popF, pl4, ΓY, ΓL, c16, eng, litSt, srunA_nil, srunA_b, stepR, contB_mk, r0, regC, sop, unw, strip, sev, tg, tset, tput, needs, opNeeds, popF, exitC, sCall, List.map_nil, true_and, and_self, eq_self, Nat.reduceBEq]
          exact hF _ _ _ ⟨trivial, by simp only [Try.f4, rb, retP, sResults, sRes1, resK, retV, vwk, vwk1, hwk, sc, tg, List.length_nil, and_self, eq_self, Nat.le_refl]⟩
        | true =>
          have hil : i < n := by simp at hlt; omega
          obtain ⟨b, o, rfl, hcell⟩ := hE (by omega)
          obtain ⟨e0, e1, e2, e3, e4⟩ := hcell i hil
          have hlt' : ((i : Int) < n) = True := by simp; omega
          have hw : IntKind.i64.wrap ((i : Int) + 1) = i + 1 := wrap1 (by omega) (by omega)
          have hxl : x.len ≤ 1000000 := by simp only at hlen; omega
          have hrl : r.len ≤ 1000000 := by rw [← hr.len]; exact hxl
          cases hk1 : decide (a0 i = 1) with
          | true =>
            have r' := hr.ask
            have z0 := hr.ask0
            have z1 := hr.ask1
            have z2 := hr.ask2
            have z3 := hr.ask3
            have q1 := r'.now
            have q2 := r'.en
            simp only [t4, h4, junks, ri, rb, pl4, ΓY, ΓL, cM, onNat, allN, sigN, ren, rens, decN, decN2, lix, lof, lln, el0, el1, ivn, cellOf, lstF, nodupB, encN, encN2, bRN, eRN, onRN, decRN, Nod.eta, RN.eta, Nod.room, RN.room, hxl, hrl, hlt', hw, ask_word, ask_wordR, hk1, e0, z0, z1, z2, z3, Nod.holds, RN.holds, q1, q2, seq41T, beq_self_eq_true, renB, rens, ren, sig, subH, updH, eng, litSt, srunA_nil, srunA_b, stepR, contB_mk, r0, r1, r2, regC, sop, unw, strip, sev, tg, tset, tput, needs, opNeeds, sBin, ibin, shiftOp, gb, gslot, gdst, onth, wants, sPick, selC, sLoad, sStore, sExtract, sField, sIndex, sLen, sNew, sAlloc, sFill, sBuild, sCall, sBuiltin, cellsAt, roCells, hget, hset, hd1, vcells, one, splice, holeAt, idxAt, pushAt, nth, intsEq, drawSt, preL, chkL, chk, chk2, stp, nxtB_mk, pref_0, pref_b, hpOf, effAt, effOp, pureOp, readOp, allocOp, holes, List.length_cons, List.length_nil, List.cons_append, List.nil_append, List.append_nil, List.map_cons, List.map_nil, List.take_succ_cons, List.take_zero, List.take_nil, List.drop_succ_cons, List.drop_zero, List.drop_nil, List.all_cons, List.all_nil, List.contains_cons, List.contains_nil, List.getElem?_cons_zero, List.getElem?_cons_succ, List.getElem?_nil, true_and, and_self, or_true, implies_true, not_false_eq_true, eq_self, ne_eq, Bool.false_eq_true, Bool.not_true, Bool.not_false, Bool.and_false, Bool.or_false, Bool.and_self, Bool.cond_false, decide_true, Nat.zero_add, Nat.add_zero, Nat.le_refl, Int.toNat_natCast, Int.natCast_nonneg, Option.getD_some, Option.getD_none, Option.isSome_some, reduceCtorEq, Value.oneCell', ↓reduceIte, Nat.reduceAdd, Nat.reduceSub, Nat.reduceLT, Nat.reduceLeDiff, Nat.reduceBEq, tk3, ta3, tu4, te36, tk39, ts39, ta39, tf39_2, tf39_4, tk41, ts41, ta41, tz41, tpl41, tk43, ts43, tf43_0]
            refine hN (some [0, 6, 2, 7]) (i + 1, x.ask, r.ask) _ _ ⟨by simp only; omega, r', by have := ask_len x; simp only at hlen ⊢; omega⟩ (by simp only; omega) ?_
            simp only [NwO, Nw, t4, h4, junks, bRN, q1, q2, ri, rb, Int.natCast_add, Int.natCast_one, NwO, Nw, wk, renJ, renJs, mvH, hgetO, memB, posG, jp, renJB, vwks, vwk1, hwk, bwk, sc, scs, List.length_cons, List.length_nil, List.cons_append, List.nil_append, List.take_zero, and_true, and_self, implies_true, eq_self, Bool.and_self, decide_true, decide_false, Nat.zero_add, Nat.le_refl, reduceCtorEq, Nat.reduceAdd, Nat.reduceLT, Nat.reduceLeDiff, Nat.reduceEqDiff]
            rfl
          | false =>
            cases hk2 : decide (a0 i = 2) with
            | true =>
              have r' := hr.hear (a2 i) (a3 i) (a4 i)
              have q4 := hr.hearE (a2 i) (a3 i) (a4 i)
              have q1 := r'.now
              have q2 := r'.en
              simp only [t4, h4, junks, ri, rb, pl4, ΓY, ΓL, cM, onNat, allN, sigN, ren, rens, decN, decN2, lix, lof, lln, el0, el1, ivn, cellOf, lstF, nodupB, encN, bRN, eRN, onRN, decRN, Nod.eta, RN.eta, Nod.room, RN.room, hxl, hrl, hlt', hw, hk1, hk2, e0, e2, e3, e4, q4, Nod.holds, RN.holds, q1, q2, seq41T, beq_self_eq_true, renB, rens, ren, sig, subH, updH, eng, litSt, srunA_nil, srunA_b, stepR, contB_mk, r0, r1, r2, regC, sop, unw, strip, sev, tg, tset, tput, needs, opNeeds, sBin, ibin, shiftOp, gb, gslot, gdst, onth, wants, sPick, selC, sLoad, sStore, sExtract, sField, sIndex, sLen, sNew, sAlloc, sFill, sBuild, sCall, sBuiltin, cellsAt, roCells, hget, hset, hd1, vcells, one, splice, holeAt, idxAt, pushAt, nth, intsEq, drawSt, preL, chkL, chk, chk2, stp, nxtB_mk, pref_0, pref_b, hpOf, effAt, effOp, pureOp, readOp, allocOp, holes, List.length_cons, List.length_nil, List.cons_append, List.nil_append, List.append_nil, List.map_cons, List.map_nil, List.take_succ_cons, List.take_zero, List.take_nil, List.drop_succ_cons, List.drop_zero, List.drop_nil, List.all_cons, List.all_nil, List.contains_cons, List.contains_nil, List.getElem?_cons_zero, List.getElem?_cons_succ, List.getElem?_nil, true_and, and_self, or_true, implies_true, not_false_eq_true, eq_self, ne_eq, Bool.false_eq_true, Bool.not_true, Bool.not_false, Bool.and_false, Bool.or_false, Bool.and_self, Bool.cond_false, decide_true, Nat.zero_add, Nat.add_zero, Nat.le_refl, Int.toNat_natCast, Int.natCast_nonneg, Option.getD_some, Option.getD_none, Option.isSome_some, reduceCtorEq, Value.oneCell', ↓reduceIte, Nat.reduceAdd, Nat.reduceSub, Nat.reduceLT, Nat.reduceLeDiff, Nat.reduceBEq, tk3, ta3, tu4, te36, tk39, ts39, ta39, tf39_2, tf39_4, tk41, ts41, ta41, tz41, tpl41, tk43, ts43, tf43_0, tf43_2]
              refine hN (some [0, 1, 2, 6]) (i + 1, x.hear (a2 i) (a3 i) (a4 i), r.hear (a2 i) (a3 i) (a4 i)) _ _ ⟨by simp only; omega, r', by have := hear_len x (a2 i) (a3 i) (a4 i); simp only at hlen ⊢; omega⟩ (by simp only; omega) ?_
              simp only [NwO, Nw, t4, h4, junks, bRN, q1, q2, ri, rb, Int.natCast_add, Int.natCast_one, NwO, Nw, wk, renJ, renJs, mvH, hgetO, memB, posG, jp, renJB, vwks, vwk1, hwk, bwk, sc, scs, List.length_cons, List.length_nil, List.cons_append, List.nil_append, List.take_zero, and_true, and_self, implies_true, eq_self, Bool.and_self, decide_true, decide_false, Nat.zero_add, Nat.le_refl, reduceCtorEq, Nat.reduceAdd, Nat.reduceLT, Nat.reduceLeDiff, Nat.reduceEqDiff]
              rfl
            | false =>
              cases hk3 : decide (a0 i = 3) with
              | true =>
                have r' := hr.fall
                have q1 := r'.now
                have q2 := r'.en
                simp only [t4, h4, junks, ri, rb, pl4, ΓY, ΓL, cM, onNat, allN, sigN, ren, rens, decN, decN2, lix, lof, lln, el0, el1, ivn, cellOf, lstF, nodupB, encN, bRN, eRN, onRN, decRN, Nod.eta, RN.eta, hlt', hw, hk1, hk2, hk3, e0, Nod.holds, RN.holds, q1, q2, seq41T, beq_self_eq_true, renB, rens, ren, sig, subH, updH, eng, litSt, srunA_nil, srunA_b, stepR, contB_mk, r0, r1, r2, regC, sop, unw, strip, sev, tg, tset, tput, needs, opNeeds, sBin, ibin, shiftOp, gb, gslot, gdst, onth, wants, sPick, selC, sLoad, sStore, sExtract, sField, sIndex, sLen, sNew, sAlloc, sFill, sBuild, sCall, sBuiltin, cellsAt, roCells, hget, hset, hd1, vcells, one, splice, holeAt, idxAt, pushAt, nth, intsEq, drawSt, preL, chkL, chk, chk2, stp, nxtB_mk, pref_0, pref_b, hpOf, effAt, effOp, pureOp, readOp, allocOp, holes, List.length_cons, List.length_nil, List.cons_append, List.nil_append, List.append_nil, List.map_cons, List.map_nil, List.take_succ_cons, List.take_zero, List.take_nil, List.drop_succ_cons, List.drop_zero, List.drop_nil, List.all_cons, List.all_nil, List.contains_cons, List.contains_nil, List.getElem?_cons_zero, List.getElem?_cons_succ, List.getElem?_nil, true_and, and_self, or_true, implies_true, not_false_eq_true, eq_self, ne_eq, Bool.false_eq_true, Bool.not_true, Bool.not_false, Bool.and_false, Bool.or_false, Bool.and_self, Bool.cond_false, decide_true, Nat.zero_add, Nat.add_zero, Nat.le_refl, Int.toNat_natCast, Int.natCast_nonneg, Option.getD_some, Option.getD_none, Option.isSome_some, reduceCtorEq, Value.oneCell', ↓reduceIte, Nat.reduceAdd, Nat.reduceSub, Nat.reduceLT, Nat.reduceLeDiff, Nat.reduceBEq, tk3, ta3, tu4, te36, tk39, ts39, ta39, tf39_2, tf39_4, tk41, ts41, ta41, tz41, tpl41, tk43, ts43, tf43_0]
                refine hN (some [0, 1, 2, 6]) (i + 1, x.fall, r.fall) _ _ ⟨by simp only; omega, r', by have := show x.fall.len ≤ x.len from Nat.zero_le _; simp only at hlen ⊢; omega⟩ (by simp only; omega) ?_
                simp only [NwO, Nw, t4, h4, junks, bRN, q1, q2, ri, rb, Int.natCast_add, Int.natCast_one, NwO, Nw, wk, renJ, renJs, mvH, hgetO, memB, posG, jp, renJB, vwks, vwk1, hwk, bwk, sc, scs, List.length_cons, List.length_nil, List.cons_append, List.nil_append, List.take_zero, and_true, and_self, implies_true, eq_self, Bool.and_self, decide_true, decide_false, Nat.zero_add, Nat.le_refl, reduceCtorEq, Nat.reduceAdd, Nat.reduceLT, Nat.reduceLeDiff, Nat.reduceEqDiff]
                rfl
              | false =>
                cases hk4 : decide (a0 i = 4) with
                | true =>
                  have r' := hr.ret
                  have z0 := hr.ret0
                  have z1 := hr.ret1
                  have z2 := hr.ret2
                  have z3 := hr.ret3
                  have q1 := r'.now
                  have q2 := r'.en
                  simp only [t4, h4, junks, ri, rb, pl4, ΓY, ΓL, cM, onNat, allN, sigN, ren, rens, decN, decN2, lix, lof, lln, el0, el1, ivn, cellOf, lstF, nodupB, encN, bRN, eRN, onRN, decRN, Nod.eta, RN.eta, hlt', hw, ret_word, ret_wordR, hk1, hk2, hk3, hk4, e0, z0, z1, z2, z3, Nod.holds, RN.holds, q1, q2, seq41T, beq_self_eq_true, renB, rens, ren, sig, subH, updH, eng, litSt, srunA_nil, srunA_b, stepR, contB_mk, r0, r1, r2, regC, sop, unw, strip, sev, tg, tset, tput, needs, opNeeds, sBin, ibin, shiftOp, gb, gslot, gdst, onth, wants, sPick, selC, sLoad, sStore, sExtract, sField, sIndex, sLen, sNew, sAlloc, sFill, sBuild, sCall, sBuiltin, cellsAt, roCells, hget, hset, hd1, vcells, one, splice, holeAt, idxAt, pushAt, nth, intsEq, drawSt, preL, chkL, chk, chk2, stp, nxtB_mk, pref_0, pref_b, hpOf, effAt, effOp, pureOp, readOp, allocOp, holes, List.length_cons, List.length_nil, List.cons_append, List.nil_append, List.append_nil, List.map_cons, List.map_nil, List.take_succ_cons, List.take_zero, List.take_nil, List.drop_succ_cons, List.drop_zero, List.drop_nil, List.all_cons, List.all_nil, List.contains_cons, List.contains_nil, List.getElem?_cons_zero, List.getElem?_cons_succ, List.getElem?_nil, true_and, and_self, or_true, implies_true, not_false_eq_true, eq_self, ne_eq, Bool.false_eq_true, Bool.not_true, Bool.not_false, Bool.and_false, Bool.or_false, Bool.and_self, Bool.cond_false, decide_true, Nat.zero_add, Nat.add_zero, Nat.le_refl, Int.toNat_natCast, Int.natCast_nonneg, Option.getD_some, Option.getD_none, Option.isSome_some, reduceCtorEq, Value.oneCell', ↓reduceIte, Nat.reduceAdd, Nat.reduceSub, Nat.reduceLT, Nat.reduceLeDiff, Nat.reduceBEq, tk3, ta3, tu4, te36, tk39, ts39, ta39, tf39_2, tf39_4, tk41, ts41, ta41, tz41, tpl41, tk43, ts43, tf43_0]
                  refine hN (some [0, 1, 2, 6]) (i + 1, x.ret, r.ret) _ _ ⟨by simp only; omega, r', by have := ret_len x; simp only at hlen ⊢; omega⟩ (by simp only; omega) ?_
                  simp only [NwO, Nw, t4, h4, junks, bRN, q1, q2, ri, rb, Int.natCast_add, Int.natCast_one, NwO, Nw, wk, renJ, renJs, mvH, hgetO, memB, posG, jp, renJB, vwks, vwk1, hwk, bwk, sc, scs, List.length_cons, List.length_nil, List.cons_append, List.nil_append, List.take_zero, and_true, and_self, implies_true, eq_self, Bool.and_self, decide_true, decide_false, Nat.zero_add, Nat.le_refl, reduceCtorEq, Nat.reduceAdd, Nat.reduceLT, Nat.reduceLeDiff, Nat.reduceEqDiff]
                  rfl
                | false =>
                  have r' := hr.tk
                  have q1 := r'.now
                  have q2 := r'.en
                  simp only [t4, h4, junks, ri, rb, pl4, ΓY, ΓL, cM, onNat, allN, sigN, ren, rens, decN, decN2, lix, lof, lln, el0, el1, ivn, cellOf, lstF, nodupB, encN, bRN, eRN, onRN, decRN, Nod.eta, hlt', hw, hk1, hk2, hk3, hk4, e0, Nod.holds, RN.holds, q1, q2, seq41T, beq_self_eq_true, renB, rens, ren, sig, subH, updH, eng, litSt, srunA_nil, srunA_b, stepR, contB_mk, r0, r1, r2, regC, sop, unw, strip, sev, tg, tset, tput, needs, opNeeds, sBin, ibin, shiftOp, gb, gslot, gdst, onth, wants, sPick, selC, sLoad, sStore, sExtract, sField, sIndex, sLen, sNew, sAlloc, sFill, sBuild, sCall, sBuiltin, cellsAt, roCells, hget, hset, hd1, vcells, one, splice, holeAt, idxAt, pushAt, nth, intsEq, drawSt, preL, chkL, chk, chk2, stp, nxtB_mk, pref_0, pref_b, hpOf, effAt, effOp, pureOp, readOp, allocOp, holes, List.length_cons, List.length_nil, List.cons_append, List.nil_append, List.append_nil, List.map_cons, List.map_nil, List.take_succ_cons, List.take_zero, List.take_nil, List.drop_succ_cons, List.drop_zero, List.drop_nil, List.all_cons, List.all_nil, List.contains_cons, List.contains_nil, List.getElem?_cons_zero, List.getElem?_cons_succ, true_and, and_self, or_true, implies_true, not_false_eq_true, eq_self, ne_eq, Bool.false_eq_true, Bool.not_true, Bool.not_false, Bool.and_false, Bool.or_false, Bool.and_self, Bool.cond_false, decide_true, Nat.zero_add, Nat.add_zero, Nat.le_refl, Int.toNat_natCast, Int.natCast_nonneg, Option.getD_some, Option.isSome_some, reduceCtorEq, Value.oneCell', ↓reduceIte, Nat.reduceAdd, Nat.reduceSub, Nat.reduceLT, Nat.reduceLeDiff, Nat.reduceBEq, tk3, ts3, ta3, tu4, te36, tk39, ts39, ta39, tf39_2, tf39_4, tk41, ts41, ta41, tz41, tpl41, tk43, ts43, tf43_0]
                  refine hN (some [0, 1, 2, 3]) (i + 1, x.tk, { r with clock := IntKind.i64.wrap (r.clock + 1) }) _ _ ⟨by simp only; omega, r', by have := show x.tk.len ≤ x.len from Nat.le_refl _; simp only at hlen ⊢; omega⟩ (by simp only; omega) ?_
                  simp only [NwO, Nw, t4, h4, junks, bRN, q1, q2, ri, rb, Int.natCast_add, Int.natCast_one, NwO, Nw, wk, renJ, renJs, mvH, hgetO, memB, posG, jp, renJB, vwks, vwk1, hwk, bwk, sc, scs, List.length_cons, List.length_nil, List.cons_append, List.nil_append, List.take_zero, and_true, and_self, implies_true, eq_self, Bool.and_self, decide_true, decide_false, Nat.zero_add, Nat.le_refl, reduceCtorEq, Nat.reduceAdd, Nat.reduceLT, Nat.reduceLeDiff, Nat.reduceEqDiff]
                  rfl

end Go.Proofs.Ytmnpnnegnlhemaa.Eng
