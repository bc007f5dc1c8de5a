/- The centre's methods, by the engine. -/
import Derived.Test.YtmnpnnegnlhemaaCa
namespace Go.Proofs.Ytmnpnnegnlhemaa.Eng
open Go

set_option maxRecDepth 100000 in
theorem ok55 (E : Addr → Option Value) (c : Cen) : Ok Try.prog E 55 [.ptr 0 0] (encC c) (rb true) (encC c) := by
  refine ok_of_eng (pl := pl0) mixed (Γ0_sound E) Try.func55 rfl rfl (by kernel_rfl) (by simp) 100 (fun F hF => ?_)
  simp only [Try.f55, encC, ri, rb, eng, litSt, pl0, srunA_nil, srunA_b, stepR, contB_mk, r0, r1, r2, regC, sop, unw, strip, sev, tg, tset, tput, undefs, needs, opNeeds, sBin, gb, gslot, gdst, onth, wants, sPick, sLoad, sNil, sField, cellsAt, hget, hd1, List.length_cons, List.length_nil, List.cons_append, List.nil_append, List.take_succ_cons, List.take_zero, List.drop_succ_cons, List.drop_zero, true_and, and_self, implies_true, not_false_eq_true, eq_self, ne_eq, Bool.true_eq_false, Bool.cond_true, Nat.zero_add, reduceCtorEq, ↓reduceIte, Nat.reduceAdd, Nat.reduceSub, Nat.reduceLeDiff, tk4, ta4, tp27, tf90_2]
  exact hF _ _ _ ⟨trivial, by simp only [Try.f55, encC, ri, rb, retP, sResults, sRes1, resK, retV, vwk, vwks, vwk1, hwk, bwk, sc, scs, scEnts, tg, List.length_cons, List.length_nil, and_self, implies_true, eq_self, Bool.and_self, decide_true, Nat.zero_add, Nat.le_refl, Nat.reduceAdd, Nat.reduceLT]⟩

def isC (c : Cen) : SV × Cen := (.raw (.bool true), c)
def noneC (_ : Cen) : Prop := True

/-! tick -/
def Cen.tk (c : Cen) : Cen := { c with now := IntKind.i64.wrap (c.now + 1) }
set_option maxRecDepth 100000 in
theorem ok54C (E : Addr → Option Value) (c : Cen) : Ok Try.prog E 54 [.ptr 0 0] (encC c) (.tup []) (encC c.tk) := by
  refine ok_of_eng (pl := pl0) mixed (Γ0_sound E) Try.func54 rfl rfl (by kernel_rfl) (by simp [encC]) 100 (fun F hF => ?_)
  simp only [Try.f54, encC, ri, rb, eng, litSt, pl0, srunA_nil, srunA_b, stepR, contB_mk, r0, regC, sop, unw, strip, sev, tg, tset, tput, undefs, needs, opNeeds, sBin, ibin, shiftOp, sLoad, sStore, sNil, sField, cellsAt, hget, hset, hd1, vcells, one, splice, List.length_cons, List.length_nil, List.cons_append, List.nil_append, List.take_succ_cons, List.take_zero, List.drop_succ_cons, List.drop_zero, List.all_cons, List.all_nil, true_and, and_self, or_true, not_false_eq_true, eq_self, ne_eq, Bool.false_eq_true, Bool.and_self, Nat.zero_add, Nat.add_zero, reduceCtorEq, Value.oneCell', Nat.reduceAdd, Nat.reduceSub, Nat.reduceLeDiff, tk3, ts3, ta3, tf85_0]
  exact hF _ _ _ ⟨trivial, by simp only [Try.f54, encC, Cen.tk, ri, rb, retP, sResults, retV, vwk, vwks, vwk1, hwk, bwk, sc, scs, scEnts, List.length_cons, List.length_nil, and_self, implies_true, eq_self, Bool.and_self, decide_true, Nat.zero_add, Nat.le_refl, Nat.reduceAdd, Nat.reduceLT]⟩

def ΓC : Con := fun f args H => match f with
  | .func 44 => c44 args H
  | .func 50 => c50 args H
  | .func 54 => match args with
    | [.ptr i 0] => onC (fun c => (.tup [], c.tk)) noneC H i
    | _ => no
  | .func 55 => match args with
    | [.ptr i 0] => onC isC noneC H i
    | _ => no
  | _ => no
theorem ΓC_sound (E : Addr → Option Value) : Con.Sound Try.prog E ΓC := by
  intro f args H h
  unfold ΓC at h ⊢
  split at h
  · exact c44_sound h
  · exact c50_sound h
  · split at h
    · exact onC_sound (args := []) (fun c _ => ok54C E c) (fun _ => rfl) rfl (fun _ _ => rfl) h
    · exact h.elim
  · split at h
    · exact onC_sound (args := []) (fun c _ => ok55 E c) (fun _ => rfl) rfl (fun _ _ => rfl) h
    · exact h.elim
  · exact h.elim

set_option maxRecDepth 100000 in
theorem ok39 (E : Addr → Option Value) (c : Cen) : Ok Try.prog E 39 [.ptr 0 0] (encC c) (rb (decide (c.node = 0))) (encC c) := by
  refine ok_of_eng (pl := pl0) mixed (ΓC_sound E) Try.func39 rfl rfl (by kernel_rfl) (by simp) 100 (fun F hF => ?_)
  simp only [Try.f39, ΓC, onC, isC, noneC, sigC, decC, decC2, lix, mix, ivn, cellOf, lstN, lstF, nodupB, encC, ri, rb, renB, rens, ren, renEnts, sig, subH, updH, eng, litSt, pl0, srunA_nil, srunA_b, stepR, contB_mk, r0, r1, r2, regC, sop, unw, strip, sev, tg, tset, tput, undefs, needs, opNeeds, sBin, ibin, shiftOp, gb, gslot, gdst, onth, wants, sPick, sLoad, sNil, sField, sCall, cellsAt, hget, hset, hd1, List.length_cons, List.length_nil, List.cons_append, List.nil_append, List.append_nil, List.map_cons, List.map_nil, List.take_succ_cons, List.take_zero, List.drop_succ_cons, List.drop_zero, List.contains_cons, List.contains_nil, List.getElem?_cons_zero, List.getElem?_cons_succ, true_and, and_self, or_true, implies_true, not_false_eq_true, eq_self, ne_eq, Bool.true_eq_false, Bool.false_eq_true, Bool.not_false, Bool.or_false, Bool.and_self, Bool.cond_true, Nat.zero_add, Nat.add_zero, Option.getD_some, reduceCtorEq, ↓reduceIte, Nat.reduceAdd, Nat.reduceSub, Nat.reduceLT, Nat.reduceLeDiff, Nat.reduceBEq, tk3, ta3, tf87_0, tf90_1]
  exact hF _ _ _ ⟨trivial, by simp only [Try.f39, encC, ri, rb, retP, sResults, sRes1, resK, retV, vwk, vwks, vwk1, hwk, bwk, sc, scs, scEnts, tg, List.length_cons, List.length_nil, and_self, implies_true, eq_self, Bool.and_self, decide_true, Nat.zero_add, Nat.le_refl, Nat.reduceAdd, Nat.reduceLT]⟩

def pl37 : Nat → Plan
  | _ => []
set_option maxRecDepth 100000 in
theorem ok37 (E : Addr → Option Value) (c : Cen) : Ok Try.prog E 37 [.ptr 0 0] (encC c) (.tup [ri c.node, ri c.since]) (encC c) := by
  refine ok_of_eng (pl := pl37) mixed (ΓC_sound E) Try.func37 rfl rfl (by kernel_rfl) (by simp) 100 (fun F hF => ?_)
  simp only [Try.f37, pl37, ΓC, onC, isC, noneC, sigC, decC, decC2, lix, mix, ivn, cellOf, lstN, lstF, nodupB, encC, ri, rb, renB, rens, ren, renEnts, sig, subH, updH, eng, litSt, srunA_nil, srunA_b, stepR, contB_mk, r0, regC, sop, unw, strip, sev, tg, tset, tput, undefs, needs, opNeeds, gdst, onth, selC, sLoad, sNil, sField, sCall, sUn, cellsAt, hget, hset, hd1, drawSt, preL, chkL, stp, nxtB_mk, pref_0, pref_b, allocOp, holes, List.length_cons, List.length_nil, List.cons_append, List.nil_append, List.append_nil, List.map_cons, List.map_nil, List.take_succ_cons, List.take_zero, List.drop_succ_cons, List.drop_zero, List.contains_cons, List.contains_nil, List.getElem?_cons_zero, List.getElem?_cons_succ, true_and, and_self, not_false_eq_true, eq_self, ne_eq, Bool.not_true, Bool.not_false, Bool.or_false, Bool.and_self, Nat.zero_add, Nat.add_zero, Option.getD_some, reduceCtorEq, Nat.reduceAdd, Nat.reduceSub, Nat.reduceLT, Nat.reduceLeDiff, Nat.reduceBEq, tk3, ta3, tf87_0, tf87_2, tf90_1]
  exact hF _ _ _ ⟨trivial, by simp only [Try.f37, encC, ri, rb, retP, sResults, sRes1, resK, retV, vwk, vwks, vwk1, hwk, bwk, sc, scs, scEnts, tg, List.length_cons, List.length_nil, and_self, implies_true, eq_self, Bool.and_self, decide_true, Nat.zero_add, Nat.le_refl, Nat.reduceAdd, Nat.reduceLT]⟩

def Cen.brk (c : Cen) : Cen := { c with node := -1, number := 0, since := c.now }
def pl33 : Nat → Plan
  | _ => []
set_option maxRecDepth 100000 in
theorem ok33 (E : Addr → Option Value) (c : Cen) : Ok Try.prog E 33 [.ptr 0 0] (encC c) (ri 0) (encC c.brk) := by
  refine ok_of_eng (pl := pl33) mixed (ΓC_sound E) Try.func33 rfl rfl (by kernel_rfl) (by simp [encC]) 100 (fun F hF => ?_)
  simp only [Try.f33, pl33, ΓC, onC, isC, noneC, sigC, decC, decC2, lix, mix, ivn, cellOf, lstN, lstF, nodupB, encC, ri, rb, renB, rens, ren, renEnts, sig, subH, updH, eng, litSt, srunA_nil, srunA_b, stepR, contB_mk, r0, regC, sop, unw, strip, sev, tg, tset, tput, undefs, needs, opNeeds, selC, sLoad, sStore, sNil, sField, sFill, sBuild, sCall, sUn, cellsAt, hget, hset, hd1, vcells, one, whole, splice, nth, List.length_cons, List.length_nil, List.cons_append, List.nil_append, List.append_nil, List.map_cons, List.map_nil, List.take_succ_cons, List.take_zero, List.drop_succ_cons, List.drop_zero, List.drop_nil, List.all_cons, List.all_nil, List.contains_cons, List.contains_nil, List.getElem?_cons_zero, List.getElem?_cons_succ, true_and, and_self, not_false_eq_true, eq_self, ne_eq, Bool.not_true, Bool.not_false, Bool.or_false, Bool.and_self, Nat.zero_add, Nat.add_zero, Nat.le_refl, Option.getD_some, reduceCtorEq, Value.oneCell', Nat.reduceAdd, Nat.reduceSub, Nat.reduceLT, Nat.reduceLeDiff, Nat.reduceBEq, Int.reduceNeg, tk3, ta3, tf85_0, tk87, ts87, tz87, tpl87, tf90_0, tf90_1]
  exact hF _ _ _ ⟨trivial, by simp only [Try.f33, encC, Cen.brk, ri, rb, retP, sResults, sRes1, resK, retV, vwk, vwks, vwk1, hwk, bwk, sc, scs, scEnts, tg, List.length_cons, List.length_nil, and_self, implies_true, eq_self, Bool.and_self, decide_true, Nat.zero_add, Nat.le_refl, Nat.reduceAdd, Nat.reduceLT, Int.reduceNeg]⟩

def Cen.out (c : Cen) : Bool := !decide (c.node = 0) && decide (IntKind.i64.wrap (c.since + c.wait) ≤ IntKind.i64.wrap (c.now + 1))
def Cen.tick (c : Cen) : Cen := if c.out = true then { c.tk with node := 0, number := 0, since := 0 } else c.tk
def pl35 : Nat → Plan
  | _ => []
set_option maxRecDepth 100000 in
theorem ok35 (E : Addr → Option Value) (c : Cen) : Ok Try.prog E 35 [.ptr 0 0] (encC c) (ri 0) (encC c.tick) := by
  refine ok_of_eng (pl := pl35) mixed (ΓC_sound E) Try.func35 rfl rfl (by kernel_rfl) (by simp [encC]) 100 (fun F hF => ?_)
  simp only [Try.f35, pl35, ΓC, onC, isC, noneC, sigC, decC, decC2, lix, mix, ivn, cellOf, lstN, lstF, nodupB, encC, Cen.tk, ri, rb, renB, rens, ren, renEnts, sig, subH, updH, eng, litSt, srunA_nil, srunA_b, stepR, contB_mk, r0, r1, r2, regC, sop, unw, strip, sev, tg, tset, tput, undefs, needs, opNeeds, sBin, ibin, shiftOp, gb, gslot, gdst, onth, wants, sPick, selC, sLoad, sStore, sNil, sField, sFill, sBuild, sCall, sUn, cellsAt, hget, hset, hd1, vcells, one, splice, nth, drawSt, preL, chkL, stp, nxtB_mk, pref_0, pref_b, allocOp, holes, List.length_cons, List.length_nil, List.cons_append, List.nil_append, List.append_nil, List.map_cons, List.map_nil, List.take_succ_cons, List.take_zero, List.drop_succ_cons, List.drop_zero, List.all_cons, List.all_nil, List.contains_cons, List.contains_nil, List.getElem?_cons_zero, List.getElem?_cons_succ, true_and, and_self, or_true, implies_true, imp_self, ite_self, not_false_eq_true, eq_self, ne_eq, Bool.false_eq_true, Bool.not_true, Bool.not_false, Bool.or_false, Bool.and_self, Bool.cond_false_right, Nat.zero_add, Nat.add_zero, Option.getD_some, reduceCtorEq, Value.oneCell', Nat.reduceAdd, Nat.reduceSub, Nat.reduceLT, Nat.reduceLeDiff, Nat.reduceBEq, tk3, ta3, tf85_0, tk87, ts87, tz87, tf87_0, tf87_2, tpl87, tf90_0, tf90_1, tf90_3]
  cases h : c.out with
  | true =>
    unfold Cen.out at h
    simp only [h]
    exact hF _ _ _ ⟨trivial, by simp only [Try.f35, encC, Cen.tick, Cen.out, Cen.tk, h, ri, rb, retP, sResults, sRes1, resK, retV, vwk, vwks, vwk1, hwk, bwk, sc, scs, scEnts, tg, List.length_cons, List.length_nil, and_self, implies_true, eq_self, Bool.and_self, decide_true, Nat.zero_add, Nat.le_refl, ↓reduceIte, Nat.reduceAdd, Nat.reduceLT]⟩
  | false =>
    unfold Cen.out at h
    simp only [h]
    exact hF _ _ _ ⟨trivial, by simp only [Try.f35, encC, Cen.tick, Cen.out, Cen.tk, h, ri, rb, retP, sResults, sRes1, resK, retV, vwk, vwks, vwk1, hwk, bwk, sc, scs, scEnts, tg, List.length_cons, List.length_nil, and_self, implies_true, eq_self, Bool.false_eq_true, Bool.and_self, decide_true, Nat.zero_add, Nat.le_refl, ↓reduceIte, Nat.reduceAdd, Nat.reduceLT]⟩

def pl29 : Nat → Plan
  | _ => []
def Cen.want (c : Cen) (k : Int) : Cen := if (decide (0 ≤ k) && decide (k ≤ IntKind.i64.wrap (c.n - 1))) = true then { c with wanted := k } else c
set_option maxRecDepth 100000 in
theorem ok29 (E : Addr → Option Value) (c : Cen) (k : Int) : Ok Try.prog E 29 [.ptr 0 0, ri k] (encC c) (ri (if (decide (0 ≤ k) && decide (k ≤ IntKind.i64.wrap (c.n - 1))) = true then 0 else 7)) (encC (c.want k)) := by
  refine ok_of_eng (pl := pl29) mixed (ΓC_sound E) Try.func29 rfl rfl (by kernel_rfl) (by simp [encC]) 100 (fun F hF => ?_)
  simp only [Try.f29, pl29, ΓC, onC, isC, noneC, sigC, decC, decC2, lix, mix, ivn, cellOf, lstN, lstF, nodupB, encC, c44, ri, rb, renB, rens, ren, renEnts, sig, subH, updH, eng, litSt, srunA_nil, srunA_b, stepR, contB_mk, r0, regC, sop, unw, strip, sev, tg, tset, tput, undefs, needs, opNeeds, sBin, ibin, shiftOp, selC, sLoad, sStore, sNil, sField, sLen, sCall, sBuiltin, sUn, cellsAt, hget, hset, hd1, vcells, one, splice, List.length_cons, List.length_nil, List.cons_append, List.nil_append, List.append_nil, List.map_cons, List.map_nil, List.take_succ_cons, List.take_zero, List.drop_succ_cons, List.drop_zero, List.all_cons, List.all_nil, List.contains_cons, List.contains_nil, List.getElem?_cons_zero, List.getElem?_cons_succ, true_and, and_self, or_true, not_false_eq_true, eq_self, ne_eq, Bool.false_eq_true, Bool.not_true, Bool.not_false, Bool.or_false, Bool.and_self, Nat.zero_add, Nat.add_zero, Option.getD_some, reduceCtorEq, Value.oneCell', Nat.reduceAdd, Nat.reduceSub, Nat.reduceLT, Nat.reduceLeDiff, Nat.reduceBEq, tk3, ts3, tk73, ta73, te73, tf90_4, tf90_5]
  cases h1 : decide (0 ≤ k) <;> cases h2 : decide (k ≤ IntKind.i64.wrap (c.n - 1)) <;> simp only [Bool.not_true, Bool.not_false, Bool.and_true, Bool.and_false, Bool.and_self] <;>
    exact hF _ _ _ ⟨trivial, by simp only [Try.f29, encC, Cen.want, h1, h2, ri, rb, retP, sResults, sRes1, resK, retV, vwk, vwks, vwk1, hwk, bwk, sc, scs, scEnts, tg, List.length_cons, List.length_nil, and_self, implies_true, eq_self, Bool.false_eq_true, Bool.and_true, Bool.and_false, Bool.and_self, decide_true, Nat.zero_add, Nat.le_refl, ↓reduceIte, Nat.reduceAdd, Nat.reduceLT]⟩

/-! the words that it hears -/
def word (k n m : Int) : SV := .agg [ri k, ri n, ri m]
def upd (gr : Nat → Int) (k : Nat) (m : Int) : Nat → Int := fun j => if j = k then m else gr j
def pl45 : Nat → Plan
  | _ => []
def Cen.gives (c : Cen) (n : Int) : Bool := decide (n = c.wanted) && (decide (c.node = 0) || decide (c.node = n))
def Cen.got (c : Cen) (n m : Int) : Bool := !decide (m ≤ c.gr n.toNat) && c.gives n
def Cen.ask (c : Cen) (n m : Int) : Cen :=
  if decide (m ≤ c.gr n.toNat) = true then c
  else if c.gives n = true then { c with gr := upd c.gr n.toNat m, node := n, number := m, since := c.now }
  else { c with gr := upd c.gr n.toNat m }
def Cen.grants (c : Cen) (n m : Int) : SV := word (if c.got n m = true then 2 else 0) (if c.got n m = true then n else 0) (if c.got n m = true then m else 0)
set_option maxRecDepth 100000 in
theorem ok45 (E : Addr → Option Value) (c : Cen) (k n m : Int) (h0 : 0 ≤ n) (h1 : n < c.n) : Ok Try.prog E 45 [.ptr 0 0, word k n m] (encC c) (c.grants n m) (encC (c.ask n m)) := by
  have h2 : n.toNat < c.n := by omega
  refine ok_of_eng (pl := pl45) mixed (ΓC_sound E) Try.func45 rfl rfl (by kernel_rfl) (by simp [encC]) 100 (fun F hF => ?_)
  simp only [Try.f45, pl45, encC, word, h0, h1, h2, ri, rb, eng, litSt, srunA_nil, srunA_b, stepR, contB_mk, r0, r1, r2, regC, sop, unw, strip, sev, tg, tset, tput, undefs, needs, opNeeds, sBin, ibin, shiftOp, gb, gslot, gdst, onth, wants, sPick, selC, sLoad, sStore, sNil, sField, sIndex, sNew, sAlloc, sBox, sFill, sBuild, cellsAt, hget, hset, hd1, vcells, one, whole, splice, holeAt, idxAt, pushAt, nth, drawSt, preL, chkL, stp, nxtB_mk, pref_0, pref_b, allocOp, holes, List.length_cons, List.length_nil, List.cons_append, List.nil_append, List.append_nil, List.map_cons, List.map_nil, List.take_succ_cons, List.take_zero, List.take_nil, List.drop_succ_cons, List.drop_zero, List.drop_nil, List.all_cons, List.all_nil, true_and, and_true, and_self, or_true, implies_true, imp_self, ite_self, not_false_eq_true, eq_self, ne_eq, Bool.false_eq_true, Bool.and_self, Bool.cond_false_right, Bool.cond_true_left, Nat.zero_add, Nat.add_zero, Nat.le_refl, reduceCtorEq, Value.oneCell', Nat.reduceAdd, Nat.reduceSub, Nat.reduceLeDiff, tk3, ts3, ta3, tk41, ts41, tz41, tf41_1, tf41_2, tpl41, tk73, ta73, te73, tf85_0, tk87, ts87, tz87, tf87_0, tpl87, tf90_0, tf90_1, tf90_4, tf90_5]
  cases hg : decide (m ≤ c.gr n.toNat) with
  | true => exact hF _ _ _ ⟨trivial, by simp only [Try.f45, encC, Cen.ask, Cen.grants, Cen.got, word, hg, ri, rb, retP, sResults, sRes1, resK, retV, vwk, vwks, vwk1, hwk, bwk, sc, scs, scEnts, tg, sLoad, cellsAt, hget, List.length_cons, List.length_nil, List.take_succ_cons, List.take_nil, List.drop_zero, and_self, implies_true, eq_self, Bool.false_eq_true, Bool.not_true, Bool.false_and, Bool.and_self, decide_true, Nat.zero_add, Nat.le_refl, ↓reduceIte, Nat.reduceAdd, Nat.reduceLT, tk41, ts41, ta41]⟩
  | false =>
    refine ⟨by cases decide (n = c.wanted) <;> cases decide (c.node = 0) <;> simp, ?_⟩
    cases ha : decide (n = c.wanted) <;> cases hb : decide (c.node = 0) <;> cases hc : decide (c.node = n) <;> simp only [Bool.not_true, Bool.not_false, Bool.and_true, Bool.and_false, Bool.or_true, Bool.or_false, Bool.and_self] <;>
      refine hF _ _ _ ⟨trivial, ?_⟩ <;> simp only [Try.f45, encC, Cen.ask, Cen.grants, Cen.got, Cen.gives, word, hg, ha, hb, hc, ri, rb, retP, sResults, sRes1, resK, retV, vwk, vwks, vwk1, hwk, bwk, sc, scs, scEnts, tg, sLoad, cellsAt, hget, List.length_cons, List.length_nil, List.take_succ_cons, List.take_nil, List.drop_zero, true_and, and_true, and_self, implies_true, eq_self, Bool.false_eq_true, Bool.not_false, Bool.and_true, Bool.and_false, Bool.or_true, Bool.or_false, Bool.and_self, decide_true, Nat.zero_add, Nat.le_refl, ↓reduceIte, Nat.reduceAdd, Nat.reduceLT, tk41, ts41, ta41] <;> (intro j _; unfold upd; split <;> rfl)

def pl46 : Nat → Plan
  | _ => []
def Cen.drops (c : Cen) (n m : Int) : Bool := decide (c.node = n) && decide (c.number ≤ m)
def Cen.back (c : Cen) (n m : Int) : Cen :=
  if c.drops n m = true then { c with gr := upd c.gr n.toNat (max (c.gr n.toNat) m), node := 0, number := 0, since := 0 } else { c with gr := upd c.gr n.toNat (max (c.gr n.toNat) m) }
set_option maxRecDepth 100000 in
theorem ok46 (E : Addr → Option Value) (c : Cen) (k n m : Int) (h0 : 0 ≤ n) (h1 : n < c.n) : Ok Try.prog E 46 [.ptr 0 0, word k n m] (encC c) (word 0 0 0) (encC (c.back n m)) := by
  have h2 : n.toNat < c.n := by omega
  refine ok_of_eng (pl := pl46) mixed (ΓC_sound E) Try.func46 rfl rfl (by kernel_rfl) (by simp [encC]) 100 (fun F hF => ?_)
  simp only [Try.f46, pl46, encC, word, h0, h1, h2, ri, rb, eng, litSt, srunA_nil, srunA_b, stepR, contB_mk, r0, r1, r2, regC, sop, unw, strip, sev, tg, tset, tput, undefs, needs, opNeeds, sBin, ibin, shiftOp, gb, gslot, gdst, onth, wants, sPick, selC, sLoad, sStore, sNil, sMax, sField, sIndex, sNew, sAlloc, sBox, sFill, sBuild, sBuiltin, cellsAt, hget, hset, hd1, vcells, one, splice, holeAt, idxAt, pushAt, nth, drawSt, preL, chkL, stp, nxtB_mk, pref_0, pref_b, allocOp, holes, List.length_cons, List.length_nil, List.cons_append, List.nil_append, List.append_nil, List.map_cons, List.map_nil, List.take_succ_cons, List.take_zero, List.take_nil, List.drop_succ_cons, List.drop_zero, List.drop_nil, List.all_cons, List.all_nil, true_and, and_self, or_true, implies_true, imp_self, ite_self, not_false_eq_true, eq_self, ne_eq, Bool.false_eq_true, Bool.and_self, Bool.cond_false_right, Nat.zero_add, Nat.add_zero, Nat.le_refl, reduceCtorEq, Value.oneCell', Nat.reduceAdd, Nat.reduceSub, Nat.reduceLeDiff, tk3, ts3, ta3, tk41, ts41, tz41, tf41_1, tf41_2, tpl41, tk73, ta73, te73, tk87, ts87, tz87, tf87_0, tf87_1, tpl87, tf90_1, tf90_5]
  cases ha : decide (c.node = n) <;> cases hb : decide (c.number ≤ m) <;> simp only [Bool.and_true, Bool.and_false, Bool.and_self] <;>
    refine hF _ _ _ ⟨trivial, ?_⟩ <;> simp only [Try.f46, encC, Cen.back, Cen.drops, word, ha, hb, ri, rb, retP, sResults, sRes1, resK, retV, vwk, vwks, vwk1, hwk, bwk, sc, scs, scEnts, tg, sLoad, cellsAt, hget, List.length_cons, List.length_nil, List.take_succ_cons, List.take_nil, List.drop_zero, true_and, and_true, and_self, implies_true, eq_self, Bool.false_eq_true, Bool.and_true, Bool.and_false, Bool.and_self, decide_true, Nat.zero_add, Nat.le_refl, ↓reduceIte, Nat.reduceAdd, Nat.reduceLT, tk41, ts41, ta41] <;> (intro j _; unfold upd; split <;> rfl)

def inC (n : Int) (c : Cen) : Prop := 0 ≤ n ∧ n < c.n
def ΓH : Con := fun f args H => match f with
  | .func 45 => match args with
    | [.ptr i 0, .agg [.raw (.int .i64 _), .raw (.int .i64 n), .raw (.int .i64 m)]] => onC (fun c => (c.grants n m, c.ask n m)) (inC n) H i
    | _ => no
  | .func 46 => match args with
    | [.ptr i 0, .agg [.raw (.int .i64 _), .raw (.int .i64 n), .raw (.int .i64 m)]] => onC (fun c => (.agg [.raw (.int .i64 0), .raw (.int .i64 0), .raw (.int .i64 0)], c.back n m)) (inC n) H i
    | _ => no
  | f => ΓC f args H
theorem ΓH_sound (E : Addr → Option Value) : Con.Sound Try.prog E ΓH := by
  intro f args H h
  unfold ΓH at h ⊢
  split at h
  · split at h
    · rename_i i k n m
      exact onC_sound (args := [word k n m]) (fun c hc => ok45 E c k n m hc.1 hc.2) (fun _ => rfl) rfl (fun _ _ => rfl) h
    · exact h.elim
  · split at h
    · rename_i i k n m
      exact onC_sound (args := [word k n m]) (fun c hc => ok46 E c k n m hc.1 hc.2) (fun _ => rfl) rfl (fun _ _ => rfl) h
    · exact h.elim
  · exact ΓC_sound E f args H h

def pl31 : Nat → Plan
  | _ => []
/-- What the centre answers, and how it ends. -/
def Cen.err (c : Cen) (k n m : Int) : Int := if valid k n m = true then (if decide (c.n ≤ n) = true then 7 else 0) else 2
def Cen.reply (c : Cen) (k n m : Int) : Bool := valid k n m && !decide (c.n ≤ n) && decide (k = 1) && c.got n m
def Cen.hear (c : Cen) (k n m : Int) : Cen :=
  if valid k n m = true then
    if decide (c.n ≤ n) = true then c
    else if decide (k = 1) = true then c.ask n m
    else if decide (k = 3) = true then c.back n m
    else c
  else c
def Cen.says (c : Cen) (k n m : Int) : SV := word (if c.reply k n m = true then 2 else 0) (if c.reply k n m = true then n else 0) (if c.reply k n m = true then m else 0)
set_option maxRecDepth 100000 in
theorem ok31 (E : Addr → Option Value) (c : Cen) (k n m : Int) : Ok Try.prog E 31 [.ptr 0 0, word k n m] (encC c) (.tup [c.says k n m, ri (c.err k n m)]) (encC (c.hear k n m)) := by
  refine ok_of_eng (pl := pl31) mixed (ΓH_sound E) Try.func31 rfl rfl (by kernel_rfl) (by simp [encC]) 100 (fun F hF => ?_)
  cases hv : valid k n m with
  | false =>
    simp only [Try.f31, pl31, ΓH, ΓC, onC, isC, noneC, sigC, decC, decC2, lix, mix, ivn, cellOf, lstN, lstF, nodupB, encC, word, c50, hv, ri, rb, renB, rens, ren, renEnts, sig, subH, updH, eng, litSt, srunA_nil, srunA_b, stepR, contB_mk, r0, regC, sop, unw, strip, sev, tg, tset, tput, undefs, needs, opNeeds, selC, sLoad, sStore, sNew, sAlloc, sBox, sFill, sBuild, sCall, sUn, cellsAt, hget, hset, hd1, vcells, one, splice, holeAt, idxAt, pushAt, nth, List.length_cons, List.length_nil, List.cons_append, List.nil_append, List.append_nil, List.map_cons, List.map_nil, List.take_succ_cons, List.take_zero, List.take_nil, List.drop_succ_cons, List.drop_zero, List.drop_nil, List.all_cons, List.all_nil, List.contains_cons, List.contains_nil, List.getElem?_cons_zero, List.getElem?_cons_succ, true_and, and_self, eq_self, Bool.not_true, Bool.not_false, Bool.or_false, Bool.and_self, Nat.zero_add, Nat.add_zero, Nat.le_refl, Option.getD_some, Value.oneCell', Nat.reduceAdd, Nat.reduceSub, Nat.reduceLT, Nat.reduceBEq, tk41, ts41, ta41, tz41, tpl41]
    exact hF _ _ _ ⟨trivial, by simp only [Try.f31, encC, Cen.says, Cen.err, Cen.hear, Cen.reply, word, hv, ri, rb, retP, sResults, sRes1, resK, retV, vwk, vwks, vwk1, hwk, bwk, sc, scs, scEnts, tg, sLoad, cellsAt, hget, List.length_cons, List.length_nil, List.take_succ_cons, List.take_nil, List.drop_zero, and_self, implies_true, eq_self, Bool.false_eq_true, Bool.false_and, Bool.and_self, decide_true, Nat.zero_add, Nat.le_refl, ↓reduceIte, Nat.reduceAdd, Nat.reduceLT, tk41, ts41, ta41]⟩
  | true =>
    cases hn : decide (c.n ≤ n) with
    | true =>
      simp only [Try.f31, pl31, ΓH, ΓC, onC, isC, noneC, sigC, decC, decC2, lix, mix, ivn, cellOf, lstN, lstF, nodupB, encC, word, c50, hv, hn, ri, rb, renB, rens, ren, renEnts, sig, subH, updH, eng, litSt, srunA_nil, srunA_b, stepR, contB_mk, r0, regC, sop, unw, strip, sev, tg, tset, tput, undefs, needs, opNeeds, sBin, ibin, shiftOp, gdst, onth, selC, sLoad, sStore, sNil, sField, sLen, sNew, sAlloc, sBox, sFill, sBuild, sCall, sBuiltin, sUn, cellsAt, hget, hset, hd1, vcells, one, splice, holeAt, idxAt, pushAt, nth, drawSt, preL, chkL, stp, nxtB_mk, pref_0, pref_b, allocOp, holes, List.length_cons, List.length_nil, List.cons_append, List.nil_append, List.append_nil, List.map_cons, List.map_nil, List.take_succ_cons, List.take_zero, List.take_nil, List.drop_succ_cons, List.drop_zero, List.drop_nil, List.all_cons, List.all_nil, List.contains_cons, List.contains_nil, List.getElem?_cons_zero, List.getElem?_cons_succ, true_and, and_self, or_true, not_false_eq_true, eq_self, ne_eq, Bool.false_eq_true, Bool.not_true, Bool.not_false, Bool.or_false, Bool.and_self, Nat.zero_add, Nat.add_zero, Nat.le_refl, Option.getD_some, reduceCtorEq, Value.oneCell', Nat.reduceAdd, Nat.reduceSub, Nat.reduceLT, Nat.reduceLeDiff, Nat.reduceBEq, tk3, ta3, tk41, ts41, ta41, tz41, tf41_1, tpl41, tk73, ta73, te73, tf90_5]
      exact hF _ _ _ ⟨trivial, by simp only [Try.f31, encC, Cen.says, Cen.err, Cen.hear, Cen.reply, word, hv, hn, ri, rb, retP, sResults, sRes1, resK, retV, vwk, vwks, vwk1, hwk, bwk, sc, scs, scEnts, tg, sLoad, cellsAt, hget, List.length_cons, List.length_nil, List.take_succ_cons, List.take_nil, List.drop_zero, and_self, implies_true, eq_self, Bool.false_eq_true, Bool.not_true, Bool.false_and, Bool.and_false, Bool.and_self, decide_true, Nat.zero_add, Nat.le_refl, ↓reduceIte, Nat.reduceAdd, Nat.reduceLT, tk41, ts41, ta41]⟩
    | false =>
      have h0 : 0 ≤ n := by simp [valid] at hv; omega
      have h1 : n < c.n := by simp at hn; omega
      cases hk : decide (k = 1) with
      | true =>
        simp only [Try.f31, pl31, ΓH, ΓC, onC, isC, noneC, inC, sigC, decC, decC2, lix, mix, ivn, cellOf, lstN, lstF, nodupB, encC, word, c50, hv, hn, hk, h0, h1, Cen.grants, ri, rb, renB, rens, ren, renEnts, sig, subH, updH, eng, litSt, srunA_nil, srunA_b, stepR, contB_mk, r0, regC, sop, unw, strip, sev, tg, tset, tput, undefs, needs, opNeeds, sBin, ibin, shiftOp, gdst, onth, selC, sLoad, sStore, sNil, sExtract, sField, sLen, sNew, sAlloc, sBox, sLookup, sCall, sBuiltin, sUn, cellsAt, hget, hset, hd1, vcells, one, splice, holeAt, idxAt, pushAt, hasKey, findK, drawSt, preL, chkL, stp, nxtB_mk, pref_0, pref_b, allocOp, holes, List.length_cons, List.length_nil, List.cons_append, List.nil_append, List.append_nil, List.map_cons, List.map_nil, List.take_succ_cons, List.take_zero, List.take_nil, List.drop_succ_cons, List.drop_zero, List.drop_nil, List.all_cons, List.all_nil, List.contains_cons, List.contains_nil, List.getElem?_cons_zero, List.getElem?_cons_succ, true_and, and_self, or_true, not_false_eq_true, eq_self, ne_eq, Bool.false_eq_true, Bool.not_true, Bool.not_false, Bool.true_or, Bool.or_false, Bool.and_self, Nat.zero_add, Nat.add_zero, Nat.le_refl, Option.getD_some, reduceCtorEq, Value.oneCell', Nat.reduceAdd, Nat.reduceSub, Nat.reduceLT, Nat.reduceLeDiff, Nat.reduceBEq, tk3, ta3, ti3, tk41, ts41, ta41, tz41, tf41_0, tf41_1, tk73, ta73, te73, tk88, ta88, tm88, tf90_5, tf90_6, tv99]
        exact hF _ _ _ ⟨trivial, by simp only [Try.f31, encC, Cen.says, Cen.err, Cen.hear, Cen.reply, word, hv, hn, hk, ri, rb, retP, sResults, sRes1, resK, retV, vwk, vwks, vwk1, hwk, bwk, sc, scs, scEnts, tg, sLoad, cellsAt, hget, List.length_cons, List.length_nil, List.take_succ_cons, List.take_nil, List.drop_zero, and_self, implies_true, eq_self, Bool.false_eq_true, Bool.not_false, Bool.true_and, Bool.and_self, decide_true, Nat.zero_add, Nat.le_refl, ↓reduceIte, Nat.reduceAdd, Nat.reduceLT, tk41, ts41, ta41]⟩
      | false =>
        cases hk3 : decide (k = 3) with
        | true =>
          simp only [Try.f31, pl31, ΓH, ΓC, onC, isC, noneC, inC, sigC, decC, decC2, lix, mix, ivn, cellOf, lstN, lstF, nodupB, encC, word, c50, hv, hn, hk, hk3, h0, h1, ri, rb, renB, rens, ren, renEnts, sig, subH, updH, eng, litSt, srunA_nil, srunA_b, stepR, contB_mk, r0, regC, sop, unw, strip, sev, tg, tset, tput, undefs, needs, opNeeds, sBin, ibin, shiftOp, gdst, onth, selC, sLoad, sStore, sNil, sExtract, sField, sLen, sNew, sAlloc, sBox, sLookup, sCall, sBuiltin, sUn, cellsAt, hget, hset, hd1, vcells, one, splice, holeAt, idxAt, pushAt, hasKey, findK, drawSt, preL, chkL, stp, nxtB_mk, pref_0, pref_b, allocOp, holes, List.length_cons, List.length_nil, List.cons_append, List.nil_append, List.append_nil, List.map_cons, List.map_nil, List.take_succ_cons, List.take_zero, List.take_nil, List.drop_succ_cons, List.drop_zero, List.drop_nil, List.all_cons, List.all_nil, List.contains_cons, List.contains_nil, List.getElem?_cons_zero, List.getElem?_cons_succ, true_and, and_self, or_true, not_false_eq_true, eq_self, ne_eq, Bool.false_eq_true, Bool.not_true, Bool.not_false, Bool.or_true, Bool.or_false, Bool.and_self, Nat.zero_add, Nat.add_zero, Nat.le_refl, Option.getD_some, reduceCtorEq, Value.oneCell', Nat.reduceAdd, Nat.reduceSub, Nat.reduceLT, Nat.reduceLeDiff, Nat.reduceBEq, tk3, ta3, ti3, tk41, ts41, ta41, tz41, tf41_0, tf41_1, tk73, ta73, te73, tk88, ta88, tm88, tf90_5, tf90_6, tv99]
          exact hF _ _ _ ⟨trivial, by simp only [Try.f31, encC, Cen.says, Cen.err, Cen.hear, Cen.reply, word, hv, hn, hk, hk3, ri, rb, retP, sResults, sRes1, resK, retV, vwk, vwks, vwk1, hwk, bwk, sc, scs, scEnts, tg, sLoad, cellsAt, hget, List.length_cons, List.length_nil, List.take_succ_cons, List.take_nil, List.drop_zero, and_self, implies_true, eq_self, Bool.false_eq_true, Bool.not_false, Bool.false_and, Bool.and_false, Bool.and_self, decide_true, Nat.zero_add, Nat.le_refl, ↓reduceIte, Nat.reduceAdd, Nat.reduceLT, tk41, ts41, ta41]⟩
        | false =>
          simp only [Try.f31, pl31, ΓH, ΓC, onC, isC, noneC, sigC, decC, decC2, lix, mix, ivn, cellOf, lstN, lstF, nodupB, encC, word, c50, hv, hn, hk, hk3, ri, rb, renB, rens, ren, renEnts, sig, subH, updH, eng, litSt, srunA_nil, srunA_b, stepR, contB_mk, r0, regC, sop, unw, strip, sev, tg, tset, tput, undefs, needs, opNeeds, sBin, ibin, shiftOp, gdst, onth, selC, sLoad, sStore, sNil, sExtract, sField, sLen, sNew, sAlloc, sBox, sLookup, sCall, sBuiltin, sUn, cellsAt, hget, hset, hd1, vcells, one, splice, holeAt, idxAt, pushAt, hasKey, findK, drawSt, preL, chkL, stp, nxtB_mk, pref_0, pref_b, allocOp, holes, List.length_cons, List.length_nil, List.cons_append, List.nil_append, List.append_nil, List.map_cons, List.map_nil, List.take_succ_cons, List.take_zero, List.take_nil, List.drop_succ_cons, List.drop_zero, List.drop_nil, List.all_cons, List.all_nil, List.contains_cons, List.contains_nil, List.getElem?_cons_zero, List.getElem?_cons_succ, true_and, and_self, or_true, not_false_eq_true, eq_self, ne_eq, Bool.false_eq_true, Bool.not_true, Bool.not_false, Bool.or_false, Bool.and_self, Nat.zero_add, Nat.add_zero, Nat.le_refl, Option.getD_some, reduceCtorEq, Value.oneCell', Nat.reduceAdd, Nat.reduceSub, Nat.reduceLT, Nat.reduceLeDiff, Nat.reduceBEq, tk3, ta3, ti3, tk41, ts41, ta41, tz41, tf41_0, tf41_1, tk73, ta73, te73, tk88, ta88, tm88, tf90_5, tf90_6, tv99]
          exact hF _ _ _ ⟨trivial, by simp only [Try.f31, encC, Cen.says, Cen.err, Cen.hear, Cen.reply, word, hv, hn, hk, hk3, ri, rb, retP, sResults, sRes1, resK, retV, vwk, vwks, vwk1, hwk, bwk, sc, scs, scEnts, tg, sLoad, cellsAt, hget, List.length_cons, List.length_nil, List.take_succ_cons, List.take_nil, List.drop_zero, and_self, implies_true, eq_self, Bool.false_eq_true, Bool.not_false, Bool.false_and, Bool.and_false, Bool.and_self, decide_true, Nat.zero_add, Nat.le_refl, ↓reduceIte, Nat.reduceAdd, Nat.reduceLT, tk41, ts41, ta41]⟩

end Go.Proofs.Ytmnpnnegnlhemaa.Eng
