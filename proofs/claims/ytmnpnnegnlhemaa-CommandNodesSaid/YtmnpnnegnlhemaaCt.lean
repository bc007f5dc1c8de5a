/- The law on centres, by the engine. -/
import Derived.Test.YtmnpnnegnlhemaaCs
import Derived.Test.YtmnpnnegnlhemaaLf
namespace Go.Proofs.Ytmnpnnegnlhemaa.Eng
open Go

theorem seq41T : StructEq Try.prog 41 3 = True := eq_true seq41

/-- A slice of rows of five integers, in memory that is only read. -/
def Acts (E : Addr → Option Value) (aa : Option Addr) (n : Nat) (a0 a1 a2 a3 a4 : Nat → Int) : Prop :=
  0 < n → ∃ b o, aa = some ⟨b, o, none⟩ ∧ ∀ i, i < n → E ⟨b, o + i * 5, none⟩ = some (.int .i64 (a0 i)) ∧ E ⟨b, o + i * 5 + 1, none⟩ = some (.int .i64 (a1 i)) ∧
    E ⟨b, o + i * 5 + 2, none⟩ = some (.int .i64 (a2 i)) ∧ E ⟨b, o + i * 5 + 2 + 1, none⟩ = some (.int .i64 (a3 i)) ∧ E ⟨b, o + i * 5 + 2 + 1 + 1, none⟩ = some (.int .i64 (a4 i))

def t5 (v : Value) (i : Nat) : List SV := [.junk, .raw v, .junk, .junk, .junk, .ptr 1 0, .junk, .ptr 4 0, ri (i : Int)] ++ junks 139
def h5 (c : Cen) (w : RC) : List AB :=
  [.dead, .cells [ri c.now, ri c.node, ri c.number, ri c.since, rb true, ri c.wait, ri c.wanted, .lst 2 1 0 c.n, .mapv 3] 90,
   .lst c.n 1 (fun k => [ri (c.gr k)]) 3,
   .map [(.int .i64 1, .fn (.func 45) [.ptr 1 0] []), (.int .i64 3, .fn (.func 46) [.ptr 1 0] [])], .cells (eRL w) 59]

def newR (n t s : Int) : RC := ⟨n, t, s, 0, 0, 0, 0, 0, 0, 0, 0, 0, 0, 0, 0, 0, 0⟩
theorem CR.new {n t s : Int} (h : cenOk n t s = true) : CR (newC n t s) (newR n t s) := by
  have hr : rules t s = true := by simp [cenOk] at h; exact h.1
  have hn : 1 ≤ n ∧ n ≤ 8 := by simp [cenOk] at h; exact h.2
  refine ⟨rfl, rfl, rfl, fun q => absurd rfl q, fun q => absurd rfl q, ?_, rfl, ?_, hn.1, hn.2, ?_⟩
  · show _ = wt t s; unfold wt; rw [hr]; rfl
  · show ((n.toNat + 1 : Nat) : Int) = n + 1; omega
  · intro k k1 k8
    rcases eight k8 with rfl | rfl | rfl | rfl | rfl | rfl | rfl | rfl | rfl <;> rfl

def pl5 : Nat → Plan
  | 23 => [([], 22)]
  | _ => []
set_option maxHeartbeats 2000000 in
set_option maxRecDepth 100000 in
theorem ok5 (E : Addr → Option Value) (nd t s : Int) (aa : Option Addr) (n cap : Nat) (a0 a1 a2 a3 a4 : Nat → Int) (hE : Acts E aa n a0 a1 a2 a3 a4) : Ok Try.prog E 5 [.agg [ri nd, ri t, ri s], .raw (.slice aa n cap)] [] (rb true) [] := by
  refine ok_of_eng (pl := pl5) mixed (ΓZ_sound E) Try.func5 rfl rfl (by kernel_rfl) (by simp) 200 (fun F hF => ?_)
  cases hn : decide ((200 : Int) < n) with
  | true =>
    cases hc : cenOk nd t s <;>
    simp only [Try.f5, pl5, ΓZ, ΓL, c16, cM, c13, hc, hn, newC, encC, ri, rb, renB, rens, ren, renEnts, sig, updH, eng, litSt, srunA_nil, srunA_b, stepR, contB_mk, r0, r1, r2, regC, sop, unw, strip, sev, tg, tset, tput, undefs, needs, opNeeds, sBin, ibin, shiftOp, gb, gslot, gdst, onth, wants, sPick, selC, sLoad, sExtract, sField, sLen, sBox, sCall, sBuiltin, cellsAt, hget, hd1, vcells, one, holeAt, idxAt, pushAt, List.length_cons, List.length_nil, List.cons_append, List.nil_append, List.map_cons, List.map_nil, List.take_succ_cons, List.take_zero, List.take_nil, List.drop_succ_cons, List.drop_zero, List.all_cons, List.all_nil, List.getElem?_cons_zero, List.getElem?_cons_succ, List.getElem?_nil, true_and, and_self, or_true, implies_true, imp_self, not_false_eq_true, eq_self, ne_eq, Bool.true_eq_false, Bool.false_eq_true, Bool.not_true, Bool.not_false, Bool.and_self, Bool.cond_true, decide_true, decide_false, Nat.zero_add, Nat.add_zero, Nat.sub_zero, Nat.le_refl, Option.getD_none, reduceCtorEq, Value.oneCell', ↓reduceIte, Nat.reduceAdd, Nat.reduceSub, Nat.reduceLeDiff, Int.reduceEq, tk3, ta3, tf23_0, tf23_1, tf23_2, tp27, te36] <;>
    exact hF _ _ _ ⟨trivial, by simp only [Try.f5, rb, retP, sResults, sRes1, resK, retV, vwk, vwk1, hwk, sc, tg, List.length_nil, and_self, eq_self, Nat.le_refl]⟩
  | false =>
    cases hc : cenOk nd t s with
    | false =>
      simp only [Try.f5, pl5, ΓZ, ΓL, c16, cM, c13, hc, hn, ri, eng, litSt, srunA_nil, srunA_b, stepR, contB_mk, r0, r1, r2, regC, sop, unw, strip, sev, tg, tset, tput, undefs, needs, opNeeds, sBin, ibin, shiftOp, gb, gslot, gdst, onth, wants, sPick, selC, sLoad, sExtract, sField, sLen, sBox, sCall, sBuiltin, cellsAt, hget, hd1, vcells, one, holeAt, idxAt, pushAt, List.length_cons, List.length_nil, List.cons_append, List.nil_append, List.map_cons, List.map_nil, List.take_succ_cons, List.take_zero, List.take_nil, List.drop_succ_cons, List.drop_zero, List.all_cons, List.all_nil, List.getElem?_cons_zero, List.getElem?_cons_succ, true_and, and_self, or_true, implies_true, imp_self, not_false_eq_true, eq_self, ne_eq, Bool.true_eq_false, Bool.false_eq_true, Bool.not_true, Bool.not_false, Bool.and_self, Bool.cond_true, Bool.cond_false, decide_false, Nat.zero_add, Nat.add_zero, Nat.le_refl, reduceCtorEq, Value.oneCell', ↓reduceIte, Nat.reduceAdd, Nat.reduceSub, Nat.reduceLeDiff, Int.reduceEq, tk3, ta3, tf23_0, tf23_1, tf23_2, tp27, te36]
      exact hF _ _ _ ⟨trivial, by simp only [Try.f5, rb, retP, sResults, sRes1, resK, retV, vwk, vwk1, hwk, sc, tg, List.length_nil, and_self, eq_self, Nat.le_refl]⟩
    | true =>
      have hn' : n ≤ 200 := by simp at hn; omega
      simp only [Try.f5, pl5, ΓZ, ΓL, cM, c13, hc, hn, encC, ri, rb, renB, rens, ren, renEnts, sig, updH, eng, litSt, srunA_nil, srunA_b, stepR, contB_mk, r0, r1, r2, regC, sop, unw, strip, sev, tg, tset, tput, undefs, needs, opNeeds, sBin, ibin, shiftOp, gb, gslot, gdst, onth, wants, sPick, selC, sLoad, sStore, sExtract, sField, sLen, sNew, sAlloc, sBox, sFill, sBuild, sCall, sBuiltin, cellsAt, hget, hset, hd1, vcells, one, whole, splice, holeAt, idxAt, pushAt, nth, List.length_cons, List.length_nil, List.cons_append, List.nil_append, List.append_nil, List.map_cons, List.map_nil, List.take_succ_cons, List.take_zero, List.take_nil, List.drop_succ_cons, List.drop_zero, List.drop_nil, List.all_cons, List.all_nil, List.getElem?_cons_zero, List.getElem?_cons_succ, List.getElem?_nil, true_and, and_self, or_true, implies_true, not_false_eq_true, eq_self, ne_eq, Bool.false_eq_true, Bool.not_true, Bool.not_false, Bool.and_self, Bool.cond_false, decide_true, Nat.zero_add, Nat.add_zero, Nat.sub_zero, Nat.le_refl, Option.getD_none, reduceCtorEq, Value.oneCell', ↓reduceIte, Nat.reduceAdd, Nat.reduceSub, Nat.reduceLeDiff, tk3, ta3, tf23_0, tf23_1, tf23_2, tp27, te36, tk59, ts59, tz59, tpl59]
      refine ⟨Nat × Cen × RC, fun x => t5 (.slice aa n cap) x.1, fun x => h5 x.2.1 x.2.2, fun x => x.1 ≤ n ∧ CR x.2.1 x.2.2, fun x => n - x.1, (0, newC nd t s, newR nd t s), ⟨Nat.zero_le _, CR.new hc⟩, ⟨none, ?_⟩, ?_⟩
      · simp only [NwO, Nw, t5, h5, junks, newC, newR, eRL, ri, rb, Int.natCast_zero, NwO, Nw, wk, vwks, vwk1, hwk, bwk, sc, scs, scEnts, List.length_cons, List.length_nil, List.cons_append, List.nil_append, and_self, implies_true, eq_self, Bool.and_self, decide_true, Nat.zero_add, Nat.le_refl, Nat.reduceAdd, Nat.reduceLT, Nat.reduceLeDiff]
      · rintro ⟨i, c, w⟩ ⟨hi, hr⟩ F' hN hX
        cases hlt : decide ((i : Int) < n) with
        | false =>
          simp only [t5, h5, junks, ri, rb, pl5, hlt, eng, litSt, srunA_nil, srunA_b, stepR, contB_mk, r0, regC, sop, unw, strip, sev, tg, tset, tput, needs, opNeeds, sBin, ibin, shiftOp, selC, sLen, sBuiltin, List.cons_append, List.nil_append, List.map_cons, List.map_nil, true_and, and_self, or_true, eq_self, Bool.false_eq_true, te36]
          refine hX _ _ _ (by simp) ?_
          simp only [popF, pl5, ΓZ, ΓL, c16, eng, litSt, srunA_nil, srunA_b, stepR, contB_mk, r0, regC, sop, unw, strip, sev, tg, tset, tput, needs, opNeeds, popF, exitC, sCall, List.map_nil, true_and, and_self, eq_self, Nat.reduceBEq]
          exact hF _ _ _ ⟨trivial, by simp only [Try.f5, rb, retP, sResults, sRes1, resK, retV, vwk, vwk1, hwk, sc, tg, List.length_nil, and_self, eq_self, Nat.le_refl]⟩
        | true =>
          have hil : i < n := by simp at hlt; omega
          obtain ⟨b, o, rfl, hcell⟩ := hE (by omega)
          obtain ⟨e0, e1, e2, e3, e4⟩ := hcell i hil
          have hlt' : ((i : Int) < n) = True := by simp; omega
          have hw : IntKind.i64.wrap ((i : Int) + 1) = i + 1 := wrap1 (by omega) (by omega)
          cases hk1 : decide (a0 i = 1) with
          | true =>
            have r := hr.want (a1 i)
            have q1 := hr.wantE (a1 i)
            have q2 := r.lease
            have q3 := r.since
            simp only [t5, h5, junks, ri, rb, pl5, ΓZ, ΓL, cM, onC, noneC, sigC, decC, decC2, lix, mix, ivn, cellOf, lstN, lstF, nodupB, encC, onR, decR, eRL, Cen.eta, RC.eta, Cen.holds, hlt', hk1, e0, e1, q1, hw, q2, q3, seq41T, beq_self_eq_true, renB, rens, ren, renEnts, sig, subH, updH, eng, litSt, srunA_nil, srunA_b, stepR, contB_mk, r0, r1, r2, regC, sop, unw, strip, sev, tg, tset, tput, needs, opNeeds, sBin, ibin, shiftOp, gb, gslot, gdst, onth, wants, sPick, selC, sLoad, sStore, sExtract, sField, sIndex, sLen, sNew, sAlloc, sFill, sBuild, sCall, sBuiltin, cellsAt, roCells, hget, hset, hd1, vcells, one, splice, holeAt, idxAt, pushAt, nth, intsEq, drawSt, preL, chkL, chk, chk2, stp, nxtB_mk, pref_0, pref_b, hpOf, effAt, effOp, pureOp, readOp, allocOp, holes, List.length_cons, List.length_nil, List.cons_append, List.nil_append, List.append_nil, List.map_cons, List.map_nil, List.take_succ_cons, List.take_zero, List.take_nil, List.drop_succ_cons, List.drop_zero, List.drop_nil, List.all_cons, List.all_nil, List.contains_cons, List.contains_nil, List.getElem?_cons_zero, List.getElem?_cons_succ, true_and, and_self, or_true, implies_true, not_false_eq_true, eq_self, ne_eq, Bool.false_eq_true, Bool.not_true, Bool.not_false, Bool.and_false, Bool.or_false, Bool.and_self, Bool.cond_false, decide_true, Nat.zero_add, Nat.add_zero, Nat.le_refl, Int.toNat_natCast, Int.natCast_nonneg, Option.getD_some, Option.isSome_some, reduceCtorEq, Value.oneCell', ↓reduceIte, Nat.reduceAdd, Nat.reduceSub, Nat.reduceLT, Nat.reduceLeDiff, Nat.reduceBEq, tk3, ta3, tu4, te36, tk41, ts41, ta41, tz41, tpl41, tk43, ts43, tf43_0, tf43_1, tk59, ts59, ta59, tf59_6]
            refine hN none (i + 1, c.want (a1 i), w.want (a1 i)) _ _ ⟨by simp only; omega, r⟩ (by simp only; omega) ?_
            simp only [NwO, Nw, t5, h5, junks, eRL, q2, q3, ri, rb, Int.natCast_add, Int.natCast_one, NwO, Nw, wk, vwks, vwk1, hwk, bwk, sc, scs, scEnts, List.length_cons, List.length_nil, List.cons_append, List.nil_append, and_self, implies_true, eq_self, Bool.and_self, decide_true, Nat.zero_add, Nat.le_refl, Nat.reduceAdd, Nat.reduceLT, Nat.reduceLeDiff]
          | false =>
            cases hk2 : decide (a0 i = 2) with
            | true =>
              have r := hr.hear (a2 i) (a3 i) (a4 i)
              have q1 := hr.reply (a2 i) (a3 i) (a4 i)
              have q4 := hr.err (a2 i) (a3 i) (a4 i)
              have q2 := r.lease
              have q3 := r.since
              simp only [t5, h5, junks, ri, rb, pl5, ΓZ, ΓL, cM, onC, noneC, sigC, decC, decC2, lix, mix, ivn, cellOf, lstN, lstF, nodupB, encC, onR, decR, eRL, Cen.eta, RC.eta, Cen.holds, Cen.ans, Cen.says_eq, Ans32, RC.says, word, hlt', hk1, hk2, e0, e2, e3, e4, q1, q4, hw, q2, q3, seq41T, beq_self_eq_true, renB, rens, ren, renEnts, sig, subH, updH, eng, litSt, srunA_nil, srunA_b, stepR, contB_mk, r0, r1, r2, regC, sop, unw, strip, sev, tg, tset, tput, needs, opNeeds, sBin, ibin, shiftOp, gb, gslot, gdst, onth, wants, sPick, selC, sLoad, sStore, sExtract, sField, sIndex, sLen, sNew, sAlloc, sFill, sBuild, sCall, sBuiltin, cellsAt, roCells, hget, hset, hd1, vcells, one, splice, holeAt, idxAt, pushAt, nth, intsEq, drawSt, preL, chkL, chk, chk2, stp, nxtB_mk, pref_0, pref_b, hpOf, effAt, effOp, pureOp, readOp, allocOp, holes, List.length_cons, List.length_nil, List.cons_append, List.nil_append, List.append_nil, List.map_cons, List.map_nil, List.take_succ_cons, List.take_zero, List.take_nil, List.drop_succ_cons, List.drop_zero, List.drop_nil, List.all_cons, List.all_nil, List.contains_cons, List.contains_nil, List.getElem?_cons_zero, List.getElem?_cons_succ, true_and, and_self, or_true, implies_true, not_false_eq_true, eq_self, ne_eq, Bool.false_eq_true, Bool.not_true, Bool.not_false, Bool.and_false, Bool.or_false, Bool.and_self, Bool.cond_false, decide_true, Nat.zero_add, Nat.add_zero, Nat.le_refl, Int.toNat_natCast, Int.natCast_nonneg, Option.getD_some, Option.isSome_some, reduceCtorEq, Value.oneCell', ↓reduceIte, Nat.reduceAdd, Nat.reduceSub, Nat.reduceLT, Nat.reduceLeDiff, Nat.reduceBEq, tk3, ta3, tu4, te36, tk41, ts41, ta41, tz41, tpl41, tk43, ts43, tf43_0, tf43_2, tk59, ts59, ta59, tf59_6]
              refine hN none (i + 1, c.hear (a2 i) (a3 i) (a4 i), w.hear (a2 i) (a3 i) (a4 i)) _ _ ⟨by simp only; omega, r⟩ (by simp only; omega) ?_
              simp only [NwO, Nw, t5, h5, junks, eRL, q2, q3, ri, rb, Int.natCast_add, Int.natCast_one, NwO, Nw, wk, vwks, vwk1, hwk, bwk, sc, scs, scEnts, List.length_cons, List.length_nil, List.cons_append, List.nil_append, and_self, implies_true, eq_self, Bool.and_self, decide_true, Nat.zero_add, Nat.le_refl, Nat.reduceAdd, Nat.reduceLT, Nat.reduceLeDiff]
            | false =>
              cases hk3 : decide (a0 i = 3) with
              | true =>
                have r := hr.brk
                have q2 := r.lease
                have q3 := r.since
                simp only [t5, h5, junks, ri, rb, pl5, ΓZ, ΓL, cM, onC, noneC, sigC, decC, decC2, lix, mix, ivn, cellOf, lstN, lstF, nodupB, encC, onR, decR, eRL, Cen.eta, RC.eta, Cen.holds, hlt', hk1, hk2, hk3, e0, hw, q2, q3, seq41T, beq_self_eq_true, renB, rens, ren, renEnts, sig, subH, updH, eng, litSt, srunA_nil, srunA_b, stepR, contB_mk, r0, r1, r2, regC, sop, unw, strip, sev, tg, tset, tput, needs, opNeeds, sBin, ibin, shiftOp, gb, gslot, gdst, onth, wants, sPick, selC, sLoad, sStore, sExtract, sField, sIndex, sLen, sNew, sAlloc, sFill, sBuild, sCall, sBuiltin, cellsAt, roCells, hget, hset, hd1, vcells, one, splice, holeAt, idxAt, pushAt, nth, intsEq, drawSt, preL, chkL, chk, chk2, stp, nxtB_mk, pref_0, pref_b, hpOf, effAt, effOp, pureOp, readOp, allocOp, holes, List.length_cons, List.length_nil, List.cons_append, List.nil_append, List.append_nil, List.map_cons, List.map_nil, List.take_succ_cons, List.take_zero, List.take_nil, List.drop_succ_cons, List.drop_zero, List.drop_nil, List.all_cons, List.all_nil, List.contains_cons, List.contains_nil, List.getElem?_cons_zero, List.getElem?_cons_succ, true_and, and_self, or_true, implies_true, not_false_eq_true, eq_self, ne_eq, Bool.false_eq_true, Bool.not_true, Bool.not_false, Bool.and_false, Bool.or_false, Bool.and_self, Bool.cond_false, decide_true, Nat.zero_add, Nat.add_zero, Nat.le_refl, Int.toNat_natCast, Int.natCast_nonneg, Option.getD_some, Option.isSome_some, reduceCtorEq, Value.oneCell', ↓reduceIte, Nat.reduceAdd, Nat.reduceSub, Nat.reduceLT, Nat.reduceLeDiff, Nat.reduceBEq, tk3, ta3, tu4, te36, tk41, ts41, ta41, tz41, tpl41, tk43, ts43, tf43_0, tk59, ts59, ta59, tf59_6]
                refine hN none (i + 1, c.brk, w.brk) _ _ ⟨by simp only; omega, r⟩ (by simp only; omega) ?_
                simp only [NwO, Nw, t5, h5, junks, eRL, q2, q3, ri, rb, Int.natCast_add, Int.natCast_one, NwO, Nw, wk, vwks, vwk1, hwk, bwk, sc, scs, scEnts, List.length_cons, List.length_nil, List.cons_append, List.nil_append, and_self, implies_true, eq_self, Bool.and_self, decide_true, Nat.zero_add, Nat.le_refl, Nat.reduceAdd, Nat.reduceLT, Nat.reduceLeDiff]
              | false =>
                have r := hr.tick
                have q2 := r.lease
                have q3 := r.since
                simp only [t5, h5, junks, ri, rb, pl5, ΓZ, ΓL, cM, onC, noneC, sigC, decC, decC2, lix, mix, ivn, cellOf, lstN, lstF, nodupB, encC, onR, decR, eRL, Cen.eta, RC.eta, Cen.holds, hlt', hk1, hk2, hk3, e0, hw, q2, q3, seq41T, beq_self_eq_true, renB, rens, ren, renEnts, sig, subH, updH, eng, litSt, srunA_nil, srunA_b, stepR, contB_mk, r0, r1, r2, regC, sop, unw, strip, sev, tg, tset, tput, needs, opNeeds, sBin, ibin, shiftOp, gb, gslot, gdst, onth, wants, sPick, selC, sLoad, sStore, sExtract, sField, sIndex, sLen, sNew, sAlloc, sFill, sBuild, sCall, sBuiltin, cellsAt, roCells, hget, hset, hd1, vcells, one, splice, holeAt, idxAt, pushAt, nth, intsEq, drawSt, preL, chkL, chk, chk2, stp, nxtB_mk, pref_0, pref_b, hpOf, effAt, effOp, pureOp, readOp, allocOp, holes, List.length_cons, List.length_nil, List.cons_append, List.nil_append, List.append_nil, List.map_cons, List.map_nil, List.take_succ_cons, List.take_zero, List.take_nil, List.drop_succ_cons, List.drop_zero, List.drop_nil, List.all_cons, List.all_nil, List.contains_cons, List.contains_nil, List.getElem?_cons_zero, List.getElem?_cons_succ, true_and, and_self, or_true, implies_true, not_false_eq_true, eq_self, ne_eq, Bool.false_eq_true, Bool.not_true, Bool.not_false, Bool.and_false, Bool.or_false, Bool.and_self, Bool.cond_false, decide_true, Nat.zero_add, Nat.add_zero, Nat.le_refl, Int.toNat_natCast, Int.natCast_nonneg, Option.getD_some, Option.isSome_some, reduceCtorEq, Value.oneCell', ↓reduceIte, Nat.reduceAdd, Nat.reduceSub, Nat.reduceLT, Nat.reduceLeDiff, Nat.reduceBEq, tk3, ta3, tu4, te36, tk41, ts41, ta41, tz41, tpl41, tk43, ts43, tf43_0, tk59, ts59, ta59, tf59_6]
                refine hN none (i + 1, c.tick, w.tick) _ _ ⟨by simp only; omega, r⟩ (by simp only; omega) ?_
                simp only [NwO, Nw, t5, h5, junks, eRL, q2, q3, ri, rb, Int.natCast_add, Int.natCast_one, NwO, Nw, wk, vwks, vwk1, hwk, bwk, sc, scs, scEnts, List.length_cons, List.length_nil, List.cons_append, List.nil_append, and_self, implies_true, eq_self, Bool.and_self, decide_true, Nat.zero_add, Nat.le_refl, Nat.reduceAdd, Nat.reduceLT, Nat.reduceLeDiff]

def vi : Value → Int
  | .int _ n => n
  | _ => 0

theorem acts_open {W : World} {H : Type} {enc : TypeId × Value → H} {v : Value} {d : DataW H} {p : List MemPlace} (h : DataW.Trod enc Try.prog W 0 (fun _ => true) true 36 v d p) (hv : ∃ a len cap, v = .slice a len cap) :
    ∃ aa n cap a0 a1 a2 a3 a4, v = .slice aa n cap ∧ Acts W.cell? aa n a0 a1 a2 a3 a4 := by
  obtain ⟨aa, n, cap, rfl⟩ := hv
  obtain ⟨m, e⟩ := h
  rcases open_rows (n := 4) (ks := [.i64, .i64, .i64, .i64, .i64]) Try.underlying36 (by kernel_rfl) (of_decide_eq_true (by kernel_rfl)) e with ⟨a, c, e1⟩ | ⟨b, o, len, c, e1, _, _, hx⟩
  · simp [Value.cells] at e1
    obtain ⟨rfl, rfl, rfl⟩ := e1
    exact ⟨_, _, _, fun _ => 0, fun _ => 0, fun _ => 0, fun _ => 0, fun _ => 0, rfl, fun h0 => absurd h0 (Nat.lt_irrefl _)⟩
  · simp [Value.cells] at e1
    obtain ⟨rfl, rfl, rfl⟩ := e1
    obtain ⟨G, hG⟩ := Deep.choose_lt (α := List Value) hx
    refine ⟨_, _, _, fun i => vi ((G i).getD 0 .nilFunc), fun i => vi ((G i).getD 1 .nilFunc), fun i => vi ((G i).getD 2 .nilFunc), fun i => vi ((G i).getD 3 .nilFunc), fun i => vi ((G i).getD 4 .nilFunc), rfl, fun _ => ⟨b, o, rfl, fun i hi => ?_⟩⟩
    obtain ⟨f, _, hc⟩ := hG i hi
    obtain ⟨x0, l0, e0, _, f⟩ := f.cons
    obtain ⟨x1, l1, rfl, _, f⟩ := f.cons
    obtain ⟨x2, l2, rfl, _, f⟩ := f.cons
    obtain ⟨x3, l3, rfl, _, f⟩ := f.cons
    obtain ⟨x4, l4, rfl, _, f⟩ := f.cons
    obtain rfl := f.nil
    have c5 : Try.prog.cellsOf 43 = 5 := by kernel_rfl
    rw [c5] at hc
    rw [e0] at hc
    dsimp only
    rw [e0]
    have k0 := hc 0 _ rfl
    have k1 := hc 1 _ rfl
    have k2 := hc 2 _ rfl
    have k3 := hc 3 _ rfl
    have k4 := hc 4 _ rfl
    exact ⟨k0, k1, k2, k3, k4⟩

end Go.Proofs.Ytmnpnnegnlhemaa.Eng
