/- A node of the reference: its functions, by the engine. -/
import Derived.Test.YtmnpnnegnlhemaaCn
namespace Go.Proofs.Ytmnpnnegnlhemaa.Eng
open Go

structure RN where
  number : Int
  term : Int
  clock : Int
  last : Int
  en : Int
  len : Nat
  an : Nat → Int
  av : Nat → Int
theorem RN.eta (x : RN) : (⟨x.number, x.term, x.clock, x.last, x.en, x.len, x.an, x.av⟩ : RN) = x := rfl

def eRN (x : RN) (i : Nat) : SV := .agg [ri x.number, ri x.term, ri x.clock, ri x.last, ri x.en, .lst i 2 0 x.len]
def bRN (x : RN) : AB := .lst x.len 2 (fun k => [ri (x.an k), ri (x.av k)]) 102

def RN.holds (x : RN) : Bool := decide (x.clock < x.en)
def pl28 : Nat → Plan
  | _ => []
set_option maxRecDepth 100000 in
theorem ok28 (E : Addr → Option Value) (x : RN) : Ok Try.prog E 28 [eRN x 0] [bRN x] (rb x.holds) [bRN x] := by
  refine ok_of_eng (pl := pl28) mixed (Γ0_sound E) Try.func28 rfl rfl (by kernel_rfl) (by simp) 100 (fun F hF => ?_)
  simp only [Try.f28, pl28, eRN, bRN, ri, eng, litSt, srunA_nil, srunA_b, stepR, contB_mk, r0, regC, sop, unw, strip, sev, tg, tset, tput, undefs, needs, opNeeds, sBin, ibin, shiftOp, sLoad, sField, sBox, cellsAt, hget, hd1, vcells, one, holeAt, idxAt, pushAt, List.length_cons, List.length_nil, List.cons_append, List.nil_append, List.take_succ_cons, List.take_zero, List.drop_succ_cons, List.drop_zero, List.all_cons, List.all_nil, true_and, and_self, or_true, not_false_eq_true, eq_self, ne_eq, Bool.false_eq_true, Bool.and_self, Nat.zero_add, reduceCtorEq, Value.oneCell', Nat.reduceAdd, Nat.reduceSub, Nat.reduceLeDiff, tk3, ta3, tf39_2, tf39_4]
  exact hF _ _ _ ⟨trivial, by simp only [Try.f28, bRN, RN.holds, ri, rb, retP, sResults, sRes1, resK, retV, vwk, vwk1, hwk, bwk, sc, scs, tg, List.length_cons, List.length_nil, and_self, implies_true, eq_self, Bool.and_self, Nat.zero_add, Nat.le_refl]⟩

def RN.fall (x : RN) : RN := { x with en := x.clock, len := 0 }
def pl22 : Nat → Plan
  | _ => []
set_option maxRecDepth 100000 in
theorem ok22 (E : Addr → Option Value) (x : RN) : Ok Try.prog E 22 [eRN x 0] [bRN x] (eRN x.fall 1) [.dead, bRN x.fall] := by
  refine ok_of_engR (pl := pl22) mixed (Γ0_sound E) Try.func22 rfl rfl (by kernel_rfl) (by simp) 100 (fun F _ hG => ?_)
  simp only [Try.f22, pl22, eRN, bRN, ri, eng, litSt, srunA_nil, srunA_b, stepR, contB_mk, r0, regC, sop, unw, strip, sev, tg, tset, tput, undefs, needs, opNeeds, sLoad, sStore, sField, sNew, sAlloc, sBox, cellsAt, hget, hset, hd1, vcells, one, splice, holeAt, idxAt, pushAt, List.length_cons, List.length_nil, List.cons_append, List.nil_append, List.append_nil, List.map_cons, List.map_nil, List.take_succ_cons, List.take_zero, List.take_nil, List.drop_succ_cons, List.drop_zero, List.drop_nil, List.all_cons, List.all_nil, true_and, and_self, not_false_eq_true, eq_self, ne_eq, Bool.and_self, Nat.zero_add, Nat.le_refl, reduceCtorEq, Value.oneCell', Nat.reduceAdd, Nat.reduceSub, Nat.reduceLeDiff, tk3, ts3, ta3, tk37, ts37, tk39, ts39, ta39, tz39, tf39_2, tf39_4, tf39_5]
  exact hG [0, 9] _ _ _ ⟨trivial, rfl, by simp only [Try.f22, eRN, bRN, RN.fall, ri, renR, renJ, renJs, mvH, hgetO, memB, renJB, retP, sResults, sRes1, resK, retV, vwk, vwks, vwk1, hwk, bwk, sc, scs, tg, sLoad, cellsAt, hget, List.length_cons, List.length_nil, List.take_succ_cons, List.take_nil, List.drop_zero, and_self, eq_self, Bool.and_self, decide_true, decide_false, Nat.zero_add, Nat.le_refl, reduceCtorEq, Nat.reduceAdd, Nat.reduceLT, Nat.reduceLeDiff, tk39, ts39, ta39]⟩

def RN.full (x : RN) : Bool := decide (x.last = 1099511627776)
def RN.ask (x : RN) : RN := match x.full with
  | true => x
  | false => { x with last := IntKind.i64.wrap (x.last + 1), len := x.len + 1, an := fun k => if k < x.len then x.an k else IntKind.i64.wrap (x.last + 1), av := fun k => if k < x.len then x.av k else x.clock }
def RN.askA (x : RN) (i : Nat) : SV := .tup [eRN x.ask i, word (match x.full with | true => 0 | false => 1) (match x.full with | true => 0 | false => x.number) (match x.full with | true => 0 | false => IntKind.i64.wrap (x.last + 1)), ri (match x.full with | true => 6 | false => 0)]
def RN.room (x : RN) : Prop := x.len ≤ 1000000
def pl18 : Nat → Plan
  | 4 => [([], 2), ([], 5), ([], 7), ([], 9), ([0], 5), ([0], 7), ([0], 9), ([9], 0), ([9], 2), ([9, 0], 2), ([9, 0], 3)]
  | 5 => [([6], 2), ([6], 4)]
  | _ => []
set_option maxHeartbeats 1000000 in
set_option maxRecDepth 100000 in
theorem ok18 (E : Addr → Option Value) (x : RN) (hx : x.room) : Ok Try.prog E 18 [eRN x 0] [bRN x] (x.askA 1) [.dead, bRN x.ask] := by
  have hx' : x.len ≤ 1000000 := hx
  refine ok_of_engR (pl := pl18) mixed (Γ0_sound E) Try.func18 rfl rfl (by kernel_rfl) (by simp) 100 (fun F _ hG => ?_)
  cases h : x.full with
  | true =>
    have h' : decide (x.last = 1099511627776) = true := h
    simp only [Try.f18, pl18, eRN, bRN, h', ri, eng, litSt, srunA_nil, srunA_b, stepR, contB_mk, r0, regC, sop, unw, strip, sev, tg, tset, tput, undefs, needs, opNeeds, sBin, ibin, shiftOp, selC, sLoad, sStore, sField, sNew, sAlloc, sBox, sFill, sBuild, cellsAt, hget, hset, hd1, vcells, one, splice, holeAt, idxAt, pushAt, nth, List.length_cons, List.length_nil, List.cons_append, List.nil_append, List.append_nil, List.map_cons, List.map_nil, List.take_succ_cons, List.take_zero, List.take_nil, List.drop_succ_cons, List.drop_zero, List.drop_nil, List.all_cons, List.all_nil, true_and, and_self, or_true, not_false_eq_true, eq_self, ne_eq, Bool.false_eq_true, Bool.and_self, Nat.zero_add, Nat.le_refl, reduceCtorEq, Value.oneCell', Nat.reduceAdd, Nat.reduceSub, Nat.reduceLeDiff, tk3, ta3, tk39, ts39, ta39, tz39, tf39_3, tk41, ts41, tz41, tpl41]
    exact hG [0, 0] _ _ _ ⟨trivial, rfl, by simp only [Try.f18, eRN, bRN, RN.askA, RN.ask, word, h, ri, renR, renJ, renJs, mvH, hgetO, memB, posG, jp, renJB, retP, sResults, sRes1, resK, retV, vwk, vwks, vwk1, hwk, bwk, sc, scs, tg, sLoad, cellsAt, hget, List.length_cons, List.length_nil, List.take_succ_cons, List.take_nil, List.drop_zero, and_self, implies_true, eq_self, Bool.and_self, decide_true, Nat.zero_add, Nat.le_refl, Nat.reduceAdd, Nat.reduceLT, Nat.reduceLeDiff, tk39, ts39, ta39, tk41, ts41, ta41]⟩
  | false =>
    have h' : decide (x.last = 1099511627776) = false := h
    simp only [Try.f18, pl18, eRN, bRN, h', ri, eng, litSt, srunA_nil, srunA_b, stepR, contB_mk, r0, regC, sop, unw, strip, sev, tg, tset, tput, undefs, needs, opNeeds, sBin, ibin, shiftOp, gdst, onth, selC, sLoad, sStore, sField, sNew, sAlloc, sBox, sFill, sBuild, sLit, sApp, sBuiltin, cellsAt, hget, hset, hd1, vcells, one, whole, splice, holeAt, idxAt, pushAt, isHole, nth, zrep, tgt, src, app, allK, drawSt, preL, chkL, chk, chk2, stp, nxtB_mk, pref_0, pref_b, hpOf, effD, effAt, effOp, pureOp, readOp, allocOp, insE, qAt, holes, List.length_cons, List.length_nil, List.cons_append, List.nil_append, List.append_nil, List.map_cons, List.map_nil, List.take_succ_cons, List.take_zero, List.take_nil, List.drop_succ_cons, List.drop_zero, List.drop_nil, List.all_cons, List.all_nil, List.filter_cons, List.filter_nil, List.contains_cons, List.contains_nil, true_and, and_true, and_self, or_true, not_false_eq_true, eq_self, ne_eq, Bool.false_eq_true, Bool.not_true, Bool.not_false, Bool.and_true, Bool.and_false, Bool.or_true, Bool.or_false, Bool.false_or, Bool.and_self, decide_true, Nat.zero_add, Nat.add_zero, Nat.zero_mul, Nat.one_mul, Nat.sub_zero, Nat.le_refl, reduceCtorEq, Value.oneCell', ↓reduceIte, Nat.reduceAdd, Nat.reduceSub, Nat.reduceLT, Nat.reduceLeDiff, Nat.reduceBEq, tk3, ts3, ta3, tk37, ts37, ta37, te37, tk39, ts39, ta39, tz39, tf39_0, tf39_2, tf39_3, tf39_5, tk41, ts41, tz41, tpl41, tk102, ts102, tb102, tz102, tpl102]
    have hA : allK x.len (fun _ => True) := (allK_spec _ _).2 (fun _ _ => trivial)
    refine ⟨⟨⟨⟨hA, by omega, by omega⟩, by omega, by omega⟩, hA, by omega, by omega⟩, hG [0, 7] _ _ _ ⟨trivial, rfl, ?_⟩⟩
    simp only [Try.f18, eRN, bRN, RN.askA, RN.ask, word, h, ri, renR, renJ, renJs, mvH, hgetO, memB, posG, jp, renJB, retP, sResults, sRes1, resK, retV, vwk, vwks, vwk1, hwk, bwk, sc, scs, tg, sLoad, cellsAt, hget, app, List.length_cons, List.length_nil, List.take_succ_cons, List.take_nil, List.drop_zero, true_and, and_true, and_self, implies_true, eq_self, Bool.and_self, decide_true, decide_false, Nat.zero_add, Nat.le_refl, reduceCtorEq, Nat.reduceAdd, Nat.reduceLT, Nat.reduceLeDiff, tk39, ts39, ta39, tk41, ts41, ta41]
    intro k hk
    by_cases q : k < x.len
    · simp only [q, if_true, Nat.not_lt_zero, if_false, renJs, renJ]
    · have : k - x.len = 0 := by omega
      simp only [q, this, List.take_succ_cons, List.take_nil, List.drop_zero, eq_self, Nat.zero_mul, ↓reduceIte, renJs, renJ]

def RN.ret (x : RN) : RN := match decide (x.last = 0) with | true => x | false => x.fall
def RN.retA (x : RN) (i : Nat) : SV := .tup [eRN x.ret i, word (match decide (x.last = 0) with | true => 0 | false => 3) (match decide (x.last = 0) with | true => 0 | false => x.number) (match decide (x.last = 0) with | true => 0 | false => x.last), ri (match decide (x.last = 0) with | true => 9 | false => 0)]

/-- A function of a node of the reference, whose asks lie in one block: that block is forgotten, another one holds the asks then. -/
def decRN (l : List SV) (B : AB) : RN :=
  ⟨ivn (tg l 0), ivn (tg l 1), ivn (tg l 2), ivn (tg l 3), ivn (tg l 4), lln (tg l 5), fun k => ivn (el0 (lstF B k)), fun k => ivn (el1 (lstF B k))⟩
def onRN (f : RN → SV × List AB) (pre : RN → Prop) (l : List SV) (H : List AB) : Res :=
  let i := lix (tg l 5)
  let x := decRN l (hget H i)
  ⟨((.agg l : SV) = ren (sig [i] H.length) (eRN x 0) ∧ subH (sig [i] H.length) H [i] [bRN x]) ∧ pre x, ren (sig [i] H.length) (f x).1, updH (sig [i] H.length) H [i] (f x).2⟩
theorem onRN_sound {E : Addr → Option Value} {fn : FuncId} {args : List SV} {f : RN → SV × List AB} {pre : RN → Prop} {l : List SV} {H : List AB} (hok : ∀ x, pre x → Ok Try.prog E fn (eRN x 0 :: args) [bRN x] (f x).1 (f x).2)
    (ha : ∀ τ : Nat → Nat, rens τ args = args) (hs : scs 1 args = true) (h : (onRN f pre l H).pre) : Ok Try.prog E fn (.agg l :: args) H (onRN f pre l H).val (onRN f pre l H).heap := by
  obtain ⟨⟨h1, h2⟩, h3⟩ := h
  have := (hok (decRN l (hget H (lix (tg l 5)))) h3).frame H [lix (tg l 5)] h2 (by simp) (by simp only [scs, sc, eRN, ri, List.length_cons, List.length_nil, hs]; rfl) (by simp only [bRN, hwk, bwk]; simp; intro k _; rfl)
  simp only [rens, ha] at this
  rw [h1]
  exact this

def ΓF : Con := fun f args H => match f with
  | .func 22 => match args with
    | [.agg l] => onRN (fun x => (eRN x.fall 1, [.dead, bRN x.fall])) (fun _ => True) l H
    | _ => no
  | _ => no
theorem ΓF_sound (E : Addr → Option Value) : Con.Sound Try.prog E ΓF := by
  intro f args H h
  unfold ΓF at h ⊢
  split at h
  · split at h
    · exact onRN_sound (args := []) (fun x _ => ok22 E x) (fun _ => rfl) rfl h
    · exact h.elim
  · exact h.elim

def pl24 : Nat → Plan
  | 3 => [([], 3), ([], 5), ([7, 1], 3), ([7, 1], 5)]
  | _ => []
set_option maxHeartbeats 1000000 in
set_option maxRecDepth 100000 in
theorem ok24 (E : Addr → Option Value) (x : RN) : Ok Try.prog E 24 [eRN x 0] [bRN x] (x.retA 1) [.dead, bRN x.ret] := by
  refine ok_of_engR (pl := pl24) mixed (ΓF_sound E) Try.func24 rfl rfl (by kernel_rfl) (by simp) 100 (fun F _ hG => ?_)
  cases h : decide (x.last = 0) with
  | true =>
    simp only [Try.f24, pl24, eRN, bRN, h, ri, eng, litSt, srunA_nil, srunA_b, stepR, contB_mk, r0, regC, sop, unw, strip, sev, tg, tset, tput, undefs, needs, opNeeds, sBin, ibin, shiftOp, selC, sLoad, sStore, sField, sNew, sAlloc, sBox, sFill, sBuild, cellsAt, hget, hset, hd1, vcells, one, splice, holeAt, idxAt, pushAt, nth, List.length_cons, List.length_nil, List.cons_append, List.nil_append, List.append_nil, List.map_cons, List.map_nil, List.take_succ_cons, List.take_zero, List.take_nil, List.drop_succ_cons, List.drop_zero, List.drop_nil, List.all_cons, List.all_nil, true_and, and_self, or_true, not_false_eq_true, eq_self, ne_eq, Bool.false_eq_true, Bool.and_self, Nat.zero_add, Nat.le_refl, reduceCtorEq, Value.oneCell', Nat.reduceAdd, Nat.reduceSub, Nat.reduceLeDiff, tk3, ta3, tk39, ts39, ta39, tz39, tf39_3, tk41, ts41, tz41, tpl41]
    exact hG [0, 0] _ _ _ ⟨trivial, rfl, by simp only [Try.f24, eRN, bRN, RN.retA, RN.ret, word, h, ri, renR, renJ, renJs, mvH, hgetO, memB, posG, jp, renJB, retP, sResults, sRes1, resK, retV, vwk, vwks, vwk1, hwk, bwk, sc, scs, tg, sLoad, cellsAt, hget, List.length_cons, List.length_nil, List.take_succ_cons, List.take_nil, List.drop_zero, and_self, implies_true, eq_self, Bool.and_self, decide_true, Nat.zero_add, Nat.le_refl, Nat.reduceAdd, Nat.reduceLT, Nat.reduceLeDiff, tk39, ts39, ta39, tk41, ts41, ta41]⟩
  | false =>
    simp only [Try.f24, pl24, ΓF, onRN, decRN, RN.fall, lix, lln, el0, el1, ivn, lstF, eRN, bRN, h, ri, renB, rens, ren, sig, subH, updH, eng, litSt, srunA_nil, srunA_b, stepR, contB_mk, r0, regC, sop, unw, strip, sev, tg, tset, tput, undefs, needs, opNeeds, sBin, ibin, shiftOp, gdst, onth, selC, sLoad, sStore, sField, sNew, sAlloc, sBox, sFill, sBuild, sCall, cellsAt, hget, hset, hd1, vcells, one, whole, splice, holeAt, idxAt, pushAt, nth, drawSt, preL, chkL, chk, chk2, stp, nxtB_mk, pref_0, pref_b, hpOf, effAt, effOp, pureOp, readOp, allocOp, holes, List.length_cons, List.length_nil, List.cons_append, List.nil_append, List.append_nil, List.map_cons, List.map_nil, List.take_succ_cons, List.take_zero, List.take_nil, List.drop_succ_cons, List.drop_zero, List.drop_nil, List.all_cons, List.all_nil, List.getElem?_cons_zero, List.getElem?_cons_succ, List.getElem?_nil, true_and, and_self, or_true, not_false_eq_true, eq_self, ne_eq, Bool.false_eq_true, Bool.not_true, Bool.not_false, Bool.and_false, Bool.and_self, Nat.zero_add, Nat.add_zero, Nat.le_refl, Option.getD_some, Option.getD_none, reduceCtorEq, Value.oneCell', Nat.reduceAdd, Nat.reduceSub, Nat.reduceLT, Nat.reduceLeDiff, tk3, ta3, tk39, ts39, ta39, tz39, tf39_0, tf39_3, tk41, ts41, tz41, tpl41]
    exact hG [0, 4] _ _ _ ⟨trivial, rfl, by simp only [Try.f24, eRN, bRN, RN.retA, RN.ret, RN.fall, word, h, ri, renR, renJ, renJs, mvH, hgetO, memB, posG, jp, renJB, retP, sResults, sRes1, resK, retV, vwk, vwks, vwk1, hwk, bwk, sc, scs, tg, sLoad, cellsAt, hget, List.length_cons, List.length_nil, List.take_succ_cons, List.take_nil, List.drop_zero, and_self, implies_true, eq_self, Bool.and_self, decide_true, decide_false, Nat.zero_add, Nat.le_refl, reduceCtorEq, Nat.reduceAdd, Nat.reduceLT, Nat.reduceLeDiff, tk39, ts39, ta39, tk41, ts41, ta41]⟩

def RN.at (x : RN) (m : Int) : Nat := firstAt (fun k => decide (x.an k = m)) 0 x.len
def RN.hit (x : RN) (m : Int) : Bool := decide (x.at m < x.len)
def RN.mine (x : RN) (k n m : Int) : Bool := valid k n m && decide (n = x.number)
def RN.gets (x : RN) (k n m : Int) : Bool := match x.mine k n m with
  | false => false
  | true => match decide (k = 2) with
    | false => false
    | true => x.hit m
def RN.hear (x : RN) (k n m : Int) : RN := match x.gets k n m with
  | false => x
  | true => { x with en := max x.en (IntKind.i64.wrap (x.av (x.at m) + x.term)), len := x.len - (x.at m + 1), an := fun k => x.an (x.at m + 1 + k), av := fun k => x.av (x.at m + 1 + k) }
def RN.hearE (x : RN) (k n m : Int) : Int := match x.mine k n m with | true => 0 | false => 2

def Γ20 : Con := fun f args H => match f with
  | .func 52 => c50 args H
  | _ => no
theorem Γ20_sound (E : Addr → Option Value) : Con.Sound Try.prog E Γ20 := by
  intro f args H h
  unfold Γ20 at h ⊢
  split at h
  · exact c52_sound h
  · exact h.elim

theorem int_ne_dec (a b : Int) : (!decide (a = b)) = decide (a ≠ b) := by simp

def junks : Nat → List SV
  | 0 => []
  | n + 1 => .junk :: junks n

def t20 (x : RN) (k n m : Int) (i : Nat) : List SV := [.junk, .junk, .ptr 1 0, .ptr 2 0, .ptr 3 0, .raw (.int .i64 0), ri (i : Int)] ++ junks 54
def h20 (x : RN) (k n m : Int) : List AB := [bRN x, .cells [ri x.number, ri x.term, ri x.clock, ri x.last, ri x.en, .lst 0 2 0 x.len] 39, .cells [ri k, ri n, ri m] 41, .cells [ri 0, ri 0, ri 0, ri 0, ri 0, .raw (.slice none 0 0)] 39]
def pl20 : Nat → Plan
  | _ => []
def py20 : Nat → Plan := pl20
set_option maxHeartbeats 1000000 in
set_option maxRecDepth 100000 in
theorem ok20 (E : Addr → Option Value) (x : RN) (k n m : Int) (hx : x.room) : Ok Try.prog E 20 [eRN x 0, word k n m] [bRN x] (.tup [eRN (x.hear k n m) 1, ri (x.hearE k n m)]) [.dead, bRN (x.hear k n m)] := by
  have hx' : x.len ≤ 1000000 := hx
  refine ok_of_engR (pl := pl20) mixed (Γ20_sound E) Try.func20 rfl rfl (by kernel_rfl) (by simp) 100 (fun F _ hG => ?_)
  cases hv : valid k n m with
  | false =>
    simp only [Try.f20, pl20, Γ20, c50, eRN, bRN, word, hv, ri, eng, litSt, srunA_nil, srunA_b, stepR, contB_mk, r0, r1, r2, regC, sop, unw, strip, sev, tg, tset, tput, undefs, needs, opNeeds, sBin, ibin, shiftOp, gb, gslot, gdst, onth, wants, sPick, selC, sLoad, sStore, sField, sNew, sAlloc, sBox, sCall, sUn, cellsAt, hget, hset, hd1, vcells, one, splice, holeAt, idxAt, pushAt, List.length_cons, List.length_nil, List.cons_append, List.nil_append, List.append_nil, List.map_cons, List.map_nil, List.take_succ_cons, List.take_zero, List.take_nil, List.drop_succ_cons, List.drop_zero, List.drop_nil, List.all_cons, List.all_nil, true_and, and_self, or_true, implies_true, imp_self, not_false_eq_true, eq_self, ne_eq, Bool.true_eq_false, Bool.false_eq_true, Bool.not_true, Bool.not_false, Bool.and_self, Bool.cond_true, Nat.zero_add, Nat.add_zero, Nat.le_refl, reduceCtorEq, Value.oneCell', ↓reduceIte, Nat.reduceAdd, Nat.reduceSub, Nat.reduceLeDiff, tk3, ta3, tk39, ts39, ta39, tz39, tf39_0, tk41, ts41, ta41, tf41_1]
    exact hG [0, 0] _ _ _ ⟨trivial, rfl, by simp only [Try.f20, eRN, bRN, RN.hear, RN.gets, RN.hearE, RN.mine, hv, ri, renR, renJ, renJs, mvH, hgetO, memB, posG, jp, renJB, retP, sResults, sRes1, resK, retV, vwk, vwks, vwk1, hwk, bwk, sc, scs, tg, sLoad, cellsAt, hget, List.length_cons, List.length_nil, List.take_succ_cons, List.take_nil, List.drop_zero, and_self, implies_true, eq_self, Bool.false_and, Bool.and_self, decide_true, Nat.zero_add, Nat.le_refl, Nat.reduceAdd, Nat.reduceLT, Nat.reduceLeDiff, tk39, ts39, ta39]⟩
  | true =>
    cases hn : decide (n = x.number) with
    | false =>
      simp only [Try.f20, pl20, Γ20, c50, eRN, bRN, word, hv, hn, ri, eng, litSt, srunA_nil, srunA_b, stepR, contB_mk, r0, r1, r2, regC, sop, unw, strip, sev, tg, tset, tput, undefs, needs, opNeeds, sBin, ibin, shiftOp, gb, gslot, gdst, onth, wants, sPick, selC, sLoad, sStore, sField, sNew, sAlloc, sBox, sCall, sUn, cellsAt, hget, hset, hd1, vcells, one, splice, holeAt, idxAt, pushAt, List.length_cons, List.length_nil, List.cons_append, List.nil_append, List.append_nil, List.map_cons, List.map_nil, List.take_succ_cons, List.take_zero, List.take_nil, List.drop_succ_cons, List.drop_zero, List.drop_nil, List.all_cons, List.all_nil, true_and, and_self, or_true, implies_true, not_false_eq_true, eq_self, ne_eq, Bool.false_eq_true, Bool.not_true, Bool.not_false, Bool.and_self, Bool.cond_false, Nat.zero_add, Nat.add_zero, Nat.le_refl, reduceCtorEq, Value.oneCell', ↓reduceIte, Nat.reduceAdd, Nat.reduceSub, Nat.reduceLeDiff, tk3, ta3, tk39, ts39, ta39, tz39, tf39_0, tk41, ts41, ta41, tf41_1]
      exact hG [0, 0] _ _ _ ⟨trivial, rfl, by simp only [Try.f20, eRN, bRN, RN.hear, RN.gets, RN.hearE, RN.mine, hv, hn, ri, renR, renJ, renJs, mvH, hgetO, memB, posG, jp, renJB, retP, sResults, sRes1, resK, retV, vwk, vwks, vwk1, hwk, bwk, sc, scs, tg, sLoad, cellsAt, hget, List.length_cons, List.length_nil, List.take_succ_cons, List.take_nil, List.drop_zero, and_self, implies_true, eq_self, Bool.and_false, Bool.and_self, decide_true, Nat.zero_add, Nat.le_refl, Nat.reduceAdd, Nat.reduceLT, Nat.reduceLeDiff, tk39, ts39, ta39]⟩
    | true =>
      cases hk : decide (k = 2) with
      | false =>
        simp only [Try.f20, pl20, Γ20, c50, eRN, bRN, word, hv, hn, hk, ri, eng, litSt, srunA_nil, srunA_b, stepR, contB_mk, r0, r1, r2, regC, sop, unw, strip, sev, tg, tset, tput, undefs, needs, opNeeds, sBin, ibin, shiftOp, gb, gslot, gdst, onth, wants, sPick, selC, sLoad, sStore, sField, sNew, sAlloc, sBox, sCall, sUn, cellsAt, hget, hset, hd1, vcells, one, splice, holeAt, idxAt, pushAt, List.length_cons, List.length_nil, List.cons_append, List.nil_append, List.append_nil, List.map_cons, List.map_nil, List.take_succ_cons, List.take_zero, List.take_nil, List.drop_succ_cons, List.drop_zero, List.drop_nil, List.all_cons, List.all_nil, true_and, and_self, or_true, implies_true, not_false_eq_true, eq_self, ne_eq, Bool.false_eq_true, Bool.not_true, Bool.not_false, Bool.and_self, Bool.cond_false, Nat.zero_add, Nat.add_zero, Nat.le_refl, reduceCtorEq, Value.oneCell', ↓reduceIte, Nat.reduceAdd, Nat.reduceSub, Nat.reduceLeDiff, tk3, ta3, tk39, ts39, ta39, tz39, tf39_0, tk41, ts41, ta41, tf41_0, tf41_1]
        exact hG [0, 0] _ _ _ ⟨trivial, rfl, by simp only [Try.f20, eRN, bRN, RN.hear, RN.gets, RN.hearE, RN.mine, hv, hn, hk, ri, renR, renJ, renJs, mvH, hgetO, memB, posG, jp, renJB, retP, sResults, sRes1, resK, retV, vwk, vwks, vwk1, hwk, bwk, sc, scs, tg, sLoad, cellsAt, hget, List.length_cons, List.length_nil, List.take_succ_cons, List.take_nil, List.drop_zero, and_self, implies_true, eq_self, Bool.and_self, decide_true, Nat.zero_add, Nat.le_refl, Nat.reduceAdd, Nat.reduceLT, Nat.reduceLeDiff, tk39, ts39, ta39]⟩
      | true =>
        simp only [Try.f20, pl20, Γ20, c50, eRN, bRN, word, hv, hn, hk, ri, eng, litSt, srunA_nil, srunA_b, stepR, contB_mk, r0, r1, r2, regC, sop, unw, strip, sev, tg, tset, tput, undefs, needs, opNeeds, sBin, ibin, shiftOp, gb, gslot, gdst, onth, wants, sPick, selC, sLoad, sField, sNew, sAlloc, sBox, sCall, sUn, cellsAt, hget, hd1, vcells, one, holeAt, idxAt, pushAt, List.length_cons, List.length_nil, List.cons_append, List.nil_append, List.map_cons, List.map_nil, List.take_succ_cons, List.take_zero, List.take_nil, List.drop_succ_cons, List.drop_zero, List.all_cons, List.all_nil, true_and, and_self, or_true, implies_true, not_false_eq_true, eq_self, ne_eq, Bool.false_eq_true, Bool.not_true, Bool.not_false, Bool.and_self, Bool.cond_false, Nat.zero_add, Nat.add_zero, Nat.le_refl, reduceCtorEq, Value.oneCell', ↓reduceIte, Nat.reduceAdd, Nat.reduceSub, Nat.reduceLeDiff, tk3, ta3, tz39, tf39_0, tk41, ts41, ta41, tf41_0, tf41_1]
        refine ⟨Nat, t20 x k n m, fun _ => h20 x k n m, fun i => i ≤ x.len ∧ ∀ j, j < i → decide (x.an j = m) = false, fun i => x.len - i, 0, ⟨Nat.zero_le _, fun j hj => by omega⟩, ⟨none, ?_⟩, ?_⟩
        · simp only [NwO, Nw, t20, h20, junks, bRN, ri, Int.natCast_zero, NwO, Nw, wk, vwks, vwk1, hwk, bwk, sc, scs, List.length_cons, List.length_nil, List.cons_append, List.nil_append, and_self, implies_true, eq_self, Bool.and_self, decide_true, Nat.zero_add, Nat.le_refl, Nat.reduceAdd, Nat.reduceLT, Nat.reduceLeDiff]
        · rintro i ⟨hi, hall⟩ F' hN hX
          simp only [t20, h20, junks, bRN, ri, pl20, eng, litSt, srunA_nil, srunA_b, stepR, contB_mk, r0, regC, sop, unw, strip, sev, tg, tset, tput, needs, opNeeds, sBin, ibin, shiftOp, gdst, onth, selC, sLoad, sStore, sMax, sField, sIndex, sLen, sSlice, sFill, sLit, sApp, sBuiltin, cellsAt, hget, hset, hd1, vcells, one, splice, holeAt, idxAt, pushAt, zrep, tgt, src, drawSt, preL, chkL, stp, nxtB_mk, pref_0, pref_b, allocOp, holes, List.length_cons, List.length_nil, List.cons_append, List.nil_append, List.append_nil, List.map_cons, List.map_nil, List.take_succ_cons, List.take_zero, List.take_nil, List.drop_succ_cons, List.drop_zero, List.drop_nil, List.all_cons, List.all_nil, true_and, and_true, and_self, or_true, not_false_eq_true, eq_self, ne_eq, Bool.false_eq_true, Bool.and_self, decide_true, Nat.zero_add, Nat.add_zero, Nat.zero_mul, Nat.le_refl, Int.toNat_natCast, Int.natCast_nonneg, reduceCtorEq, Value.oneCell', Nat.reduceAdd, Nat.reduceLT, Nat.reduceLeDiff, tk3, ts3, ta3, tk37, ts37, ta37, te37, tk39, ts39, ta39, tf39_1, tf39_4, tf39_5, tf41_2, tk102, ts102, tb102, tz102, tf102_0, tf102_1]
          cases hlt : decide ((i : Int) < x.len) with
          | false =>
            have hil : i = x.len := by simp at hlt; omega
            have hat : x.at m = x.len := firstAt_eq _ _ _ (Nat.zero_le _) (by omega) (fun j _ hj => hall j (by omega)) (fun h => by omega)
            have hh : x.hit m = false := by unfold RN.hit; rw [hat]; simp
            simp only []
            refine hX _ _ _ (by simp) ?_
            simp only [popF, pl20, eng, litSt, srunA_nil, srunA_b, stepR, contB_mk, r0, regC, sop, unw, strip, sev, tg, tset, tput, needs, opNeeds, popF, exitC, sLoad, sStore, cellsAt, hget, hset, vcells, one, splice, List.length_cons, List.length_nil, List.nil_append, List.append_nil, List.take_succ_cons, List.take_zero, List.take_nil, List.drop_succ_cons, List.drop_zero, List.drop_nil, List.all_cons, List.all_nil, true_and, and_self, eq_self, Bool.and_self, Nat.zero_add, Nat.le_refl, Value.oneCell', Nat.reduceAdd, Nat.reduceBEq, tk39, ts39, ta39]
            exact hG [0, 0] _ _ _ ⟨trivial, rfl, by simp only [Try.f20, eRN, bRN, RN.hear, RN.gets, RN.hearE, RN.mine, hv, hn, hk, hh, ri, renR, renJ, renJs, mvH, hgetO, memB, posG, jp, renJB, retP, sResults, sRes1, resK, retV, vwk, vwks, vwk1, hwk, bwk, sc, scs, tg, sLoad, cellsAt, hget, List.length_cons, List.length_nil, List.take_succ_cons, List.take_nil, List.drop_zero, and_self, implies_true, eq_self, Bool.and_self, decide_true, Nat.zero_add, Nat.le_refl, Nat.reduceAdd, Nat.reduceLT, Nat.reduceLeDiff, tk39, ts39, ta39]⟩
          | true =>
            have hil : i < x.len := by simp at hlt; omega
            have hlt' : ((i : Int) < x.len) = True := by simp; omega
            have hw : IntKind.i64.wrap ((i : Int) + 1) = i + 1 := wrap1 (by omega) (by omega)
            cases ha : decide (x.an i = m) with
            | true =>
              have hat : x.at m = i := firstAt_eq _ _ _ (Nat.zero_le _) (by omega) (fun j _ hj => hall j hj) (fun _ => ha)
              have hh : x.hit m = true := by unfold RN.hit; rw [hat]; simpa using hil
              have e1 : ((i : Int) + 1).toNat = i + 1 := by omega
              have e2 : (0 : Int) ≤ (i : Int) + 1 := by omega
              have e3 : (i : Int) + 1 ≤ x.len := by omega
              simp only [hlt', hil, hw, e1, e2, e3, true_and, and_self]
              refine ⟨⟨⟨by omega, (allK_spec _ _).2 (fun _ _ => trivial)⟩, by omega, by omega⟩, hX _ _ _ (by simp) ?_⟩
              simp only [popF, eng, popF]
              refine hG [0, 5] _ _ _ ⟨trivial, rfl, ?_⟩
              simp only [Try.f20, eRN, bRN, RN.hear, RN.gets, RN.hearE, RN.mine, hv, hn, hk, hh, hat, ri, renR, renJ, renJs, mvH, hgetO, memB, posG, jp, renJB, retP, sResults, sRes1, resK, retV, vwk, vwks, vwk1, hwk, bwk, sc, scs, tg, sLoad, cellsAt, hget, app, List.length_cons, List.length_nil, List.take_succ_cons, List.take_nil, List.drop_zero, true_and, and_true, and_self, implies_true, eq_self, Bool.and_self, decide_true, decide_false, Nat.zero_add, Nat.sub_zero, Nat.le_refl, reduceCtorEq, Nat.reduceAdd, Nat.reduceLT, Nat.reduceLeDiff, tk39, ts39, ta39]
              intro k hk
              simp only [Nat.not_lt_zero, if_false, renJs, renJ]
            | false =>
              simp only [hlt', hil, hw, true_and, and_self]
              refine hN none (i + 1) _ _ ⟨by omega, fun j hj => ?_⟩ (by simp only; omega) ?_
              · rcases Nat.lt_succ_iff_lt_or_eq.1 hj with q | q
                · exact hall j q
                · rw [q]; exact ha
              · simp only [NwO, Nw, t20, h20, junks, bRN, ri, Int.natCast_add, Int.natCast_one, NwO, Nw, wk, vwks, vwk1, hwk, bwk, sc, scs, List.length_cons, List.length_nil, List.cons_append, List.nil_append, and_self, implies_true, eq_self, Bool.and_self, decide_true, Nat.zero_add, Nat.le_refl, Nat.reduceAdd, Nat.reduceLT, Nat.reduceLeDiff]

def bsl (b : Bool) (x y : Int) : Int := match b with | true => x | false => y
def Nod.ask0 (x : Nod) : Int := bsl x.full 0 1
def Nod.ask1 (x : Nod) : Int := bsl x.full 0 x.number
def Nod.ask2 (x : Nod) : Int := bsl x.full 0 (IntKind.i64.wrap (x.last + 1))
def Nod.ask3 (x : Nod) : Int := bsl x.full 6 0
def Nod.ret0 (x : Nod) : Int := bsl (decide (x.last = 0)) 0 3
def Nod.ret1 (x : Nod) : Int := bsl (decide (x.last = 0)) 0 x.number
def Nod.ret2 (x : Nod) : Int := bsl (decide (x.last = 0)) 0 x.last
def Nod.ret3 (x : Nod) : Int := bsl (decide (x.last = 0)) 9 0
theorem ret_word (x : Nod) : x.retA = .tup [.agg [.raw (.int .i64 x.ret0), .raw (.int .i64 x.ret1), .raw (.int .i64 x.ret2)], .raw (.int .i64 x.ret3)] := by
  unfold Nod.retA Nod.retW word Nod.ret0 Nod.ret1 Nod.ret2 Nod.ret3 bsl
  cases decide (x.last = 0) <;> rfl
theorem ask_word (x : Nod) : x.askA = .tup [.agg [.raw (.int .i64 x.ask0), .raw (.int .i64 x.ask1), .raw (.int .i64 x.ask2)], .raw (.int .i64 x.ask3)] := by
  unfold Nod.askA Nod.askW word Nod.ask0 Nod.ask1 Nod.ask2 Nod.ask3 bsl
  cases x.full <;> rfl
end Go.Proofs.Ytmnpnnegnlhemaa.Eng
