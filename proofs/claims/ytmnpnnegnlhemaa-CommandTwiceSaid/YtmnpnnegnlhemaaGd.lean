/- Events as a law's argument. Plain lemmas. -/
import Derived.Test.YtmnpnnegnlhemaaGc
import Derived.Test.YtmnpnnegnlhemaaGb
namespace Go.Proofs.Ytmnpnnegnlhemaa.Eng
open Go

structure RN where
  number : Int
  term : Int
  clock : Int
  last : Int
  en : Int
  len : Nat
  an : Nat → Int
  av : Nat → Int
theorem RN.eta (x : RN) : (⟨x.number, x.term, x.clock, x.last, x.en, x.len, x.an, x.av⟩ : RN) = x := rfl

def eRN (x : RN) (i : Nat) : SV := .agg [ri x.number, ri x.term, ri x.clock, ri x.last, ri x.en, .lst i 2 0 x.len]
def bRN (x : RN) : AB := .lst x.len 2 (fun k => [ri (x.an k), ri (x.av k)]) 102

def RN.holds (x : RN) : Bool := decide (x.clock < x.en)
def pl28 : Nat → Plan
  | _ => []
set_option maxRecDepth 100000 in
theorem ok28 (E : Addr → Option Value) (x : RN) : Ok Try.prog E 28 [eRN x 0] [bRN x] (rb x.holds) [bRN x] := by
  refine ok_of_eng (pl := pl28) mixed (Γ0_sound E) Try.func28 rfl rfl (by kernel_rfl) (by simp) 100 (fun F hF => ?_)
  simp only [Try.f28, pl28, eRN, bRN, ri, eng, litSt, srunA_nil, srunA_b, stepR, contB_mk, r0, regC, sop, unw, strip, sev, tg, tset, tput, undefs, needs, opNeeds, sBin, ibin, shiftOp, sLoad, sField, sBox, cellsAt, hget, hd1, vcells, one, holeAt, idxAt, pushAt, List.length_cons, List.length_nil, List.cons_append, List.nil_append, List.take_succ_cons, List.take_zero, List.drop_succ_cons, List.drop_zero, List.all_cons, List.all_nil, true_and, and_self, or_true, not_false_eq_true, eq_self, ne_eq, Bool.false_eq_true, Bool.and_self, Nat.zero_add, reduceCtorEq, Value.oneCell', Nat.reduceAdd, Nat.reduceSub, Nat.reduceLeDiff, tk3, ta3, tf39_2, tf39_4]
  exact hF _ _ _ ⟨trivial, by simp only [Try.f28, bRN, RN.holds, ri, rb, retP, sResults, sRes1, resK, retV, vwk, vwk1, hwk, bwk, sc, scs, tg, List.length_cons, List.length_nil, and_self, implies_true, eq_self, Bool.and_self, Nat.zero_add, Nat.le_refl]⟩

def RN.fall (x : RN) : RN := { x with en := x.clock, len := 0 }
def pl22 : Nat → Plan
  | _ => []
set_option maxRecDepth 100000 in
theorem ok22 (E : Addr → Option Value) (x : RN) : Ok Try.prog E 22 [eRN x 0] [bRN x] (eRN x.fall 1) [.dead, bRN x.fall] := by
  refine ok_of_engR (pl := pl22) mixed (Γ0_sound E) Try.func22 rfl rfl (by kernel_rfl) (by simp) 100 (fun F _ hG => ?_)
  simp only [Try.f22, pl22, eRN, bRN, ri, eng, litSt, srunA_nil, srunA_b, stepR, contB_mk, r0, regC, sop, unw, strip, sev, tg, tset, tput, undefs, needs, opNeeds, sLoad, sStore, sField, sNew, sAlloc, sBox, cellsAt, hget, hset, hd1, vcells, one, splice, holeAt, idxAt, pushAt, List.length_cons, List.length_nil, List.cons_append, List.nil_append, List.append_nil, List.map_cons, List.map_nil, List.take_succ_cons, List.take_zero, List.take_nil, List.drop_succ_cons, List.drop_zero, List.drop_nil, List.all_cons, List.all_nil, true_and, and_self, not_false_eq_true, eq_self, ne_eq, Bool.and_self, Nat.zero_add, Nat.le_refl, reduceCtorEq, Value.oneCell', Nat.reduceAdd, Nat.reduceSub, Nat.reduceLeDiff, tk3, ts3, ta3, tk37, ts37, tk39, ts39, ta39, tz39, tf39_2, tf39_4, tf39_5]
  exact hG [0, 9] _ _ _ ⟨trivial, rfl, by simp only [Try.f22, eRN, bRN, RN.fall, ri, renR, renJ, renJs, mvH, hgetO, memB, renJB, retP, sResults, sRes1, resK, retV, vwk, vwks, vwk1, hwk, bwk, sc, scs, tg, sLoad, cellsAt, hget, List.length_cons, List.length_nil, List.take_succ_cons, List.take_nil, List.drop_zero, and_self, eq_self, Bool.and_self, decide_true, decide_false, Nat.zero_add, Nat.le_refl, reduceCtorEq, Nat.reduceAdd, Nat.reduceLT, Nat.reduceLeDiff, tk39, ts39, ta39]⟩

def RN.full (x : RN) : Bool := decide (x.last = 1099511627776)
def RN.ask (x : RN) : RN := match x.full with
  | true => x
  | false => { x with last := IntKind.i64.wrap (x.last + 1), len := x.len + 1, an := fun k => if k < x.len then x.an k else IntKind.i64.wrap (x.last + 1), av := fun k => if k < x.len then x.av k else x.clock }
def RN.askA (x : RN) (i : Nat) : SV := .tup [eRN x.ask i, word (match x.full with | true => 0 | false => 1) (match x.full with | true => 0 | false => x.number) (match x.full with | true => 0 | false => IntKind.i64.wrap (x.last + 1)), ri (match x.full with | true => 6 | false => 0)]
def RN.room (x : RN) : Prop := x.len ≤ 1000000
def pl18 : Nat → Plan
  | 4 => [([], 2), ([], 5), ([], 7), ([], 9), ([0], 5), ([0], 7), ([0], 9), ([9], 0), ([9], 2), ([9, 0], 2), ([9, 0], 3)]
  | 5 => [([6], 2), ([6], 4)]
  | _ => []
set_option maxHeartbeats 1000000 in
set_option maxRecDepth 100000 in
theorem ok18 (E : Addr → Option Value) (x : RN) (hx : x.room) : Ok Try.prog E 18 [eRN x 0] [bRN x] (x.askA 1) [.dead, bRN x.ask] := by
  have hx' : x.len ≤ 1000000 := hx
  refine ok_of_engR (pl := pl18) mixed (Γ0_sound E) Try.func18 rfl rfl (by kernel_rfl) (by simp) 100 (fun F _ hG => ?_)
  cases h : x.full with
  | true =>
    have h' : decide (x.last = 1099511627776) = true := h
    simp only [Try.f18, pl18, eRN, bRN, h', ri, eng, litSt, srunA_nil, srunA_b, stepR, contB_mk, r0, regC, sop, unw, strip, sev, tg, tset, tput, undefs, needs, opNeeds, sBin, ibin, shiftOp, selC, sLoad, sStore, sField, sNew, sAlloc, sBox, sFill, sBuild, cellsAt, hget, hset, hd1, vcells, one, splice, holeAt, idxAt, pushAt, nth, List.length_cons, List.length_nil, List.cons_append, List.nil_append, List.append_nil, List.map_cons, List.map_nil, List.take_succ_cons, List.take_zero, List.take_nil, List.drop_succ_cons, List.drop_zero, List.drop_nil, List.all_cons, List.all_nil, true_and, and_self, or_true, not_false_eq_true, eq_self, ne_eq, Bool.false_eq_true, Bool.and_self, Nat.zero_add, Nat.le_refl, reduceCtorEq, Value.oneCell', Nat.reduceAdd, Nat.reduceSub, Nat.reduceLeDiff, tk3, ta3, tk39, ts39, ta39, tz39, tf39_3, tk41, ts41, tz41, tpl41]
    exact hG [0, 0] _ _ _ ⟨trivial, rfl, by simp only [Try.f18, eRN, bRN, RN.askA, RN.ask, word, h, ri, renR, renJ, renJs, mvH, hgetO, memB, posG, jp, renJB, retP, sResults, sRes1, resK, retV, vwk, vwks, vwk1, hwk, bwk, sc, scs, tg, sLoad, cellsAt, hget, List.length_cons, List.length_nil, List.take_succ_cons, List.take_nil, List.drop_zero, and_self, implies_true, eq_self, Bool.and_self, decide_true, Nat.zero_add, Nat.le_refl, Nat.reduceAdd, Nat.reduceLT, Nat.reduceLeDiff, tk39, ts39, ta39, tk41, ts41, ta41]⟩
  | false =>
    have h' : decide (x.last = 1099511627776) = false := h
    simp only [Try.f18, pl18, eRN, bRN, h', ri, eng, litSt, srunA_nil, srunA_b, stepR, contB_mk, r0, regC, sop, unw, strip, sev, tg, tset, tput, undefs, needs, opNeeds, sBin, ibin, shiftOp, gdst, onth, selC, sLoad, sStore, sField, sNew, sAlloc, sBox, sFill, sBuild, sLit, sApp, sBuiltin, cellsAt, hget, hset, hd1, vcells, one, whole, splice, holeAt, idxAt, pushAt, isHole, nth, zrep, tgt, src, app, allK, drawSt, preL, chkL, chk, chk2, stp, nxtB_mk, pref_0, pref_b, hpOf, effD, effAt, effOp, pureOp, readOp, allocOp, insE, qAt, holes, List.length_cons, List.length_nil, List.cons_append, List.nil_append, List.append_nil, List.map_cons, List.map_nil, List.take_succ_cons, List.take_zero, List.take_nil, List.drop_succ_cons, List.drop_zero, List.drop_nil, List.all_cons, List.all_nil, List.filter_cons, List.filter_nil, List.contains_cons, List.contains_nil, true_and, and_true, and_self, or_true, not_false_eq_true, eq_self, ne_eq, Bool.false_eq_true, Bool.not_true, Bool.not_false, Bool.and_true, Bool.and_false, Bool.or_true, Bool.or_false, Bool.false_or, Bool.and_self, decide_true, Nat.zero_add, Nat.add_zero, Nat.zero_mul, Nat.one_mul, Nat.sub_zero, Nat.le_refl, reduceCtorEq, Value.oneCell', ↓reduceIte, Nat.reduceAdd, Nat.reduceSub, Nat.reduceLT, Nat.reduceLeDiff, Nat.reduceBEq, tk3, ts3, ta3, tk37, ts37, ta37, te37, tk39, ts39, ta39, tz39, tf39_0, tf39_2, tf39_3, tf39_5, tk41, ts41, tz41, tpl41, tk102, ts102, tb102, tz102, tpl102]
    have hA : allK x.len (fun _ => True) := (allK_spec _ _).2 (fun _ _ => trivial)
    refine ⟨⟨⟨⟨hA, by omega, by omega⟩, by omega, by omega⟩, hA, by omega, by omega⟩, hG [0, 7] _ _ _ ⟨trivial, rfl, ?_⟩⟩
    simp only [Try.f18, eRN, bRN, RN.askA, RN.ask, word, h, ri, renR, renJ, renJs, mvH, hgetO, memB, posG, jp, renJB, retP, sResults, sRes1, resK, retV, vwk, vwks, vwk1, hwk, bwk, sc, scs, tg, sLoad, cellsAt, hget, app, List.length_cons, List.length_nil, List.take_succ_cons, List.take_nil, List.drop_zero, true_and, and_true, and_self, implies_true, eq_self, Bool.and_self, decide_true, decide_false, Nat.zero_add, Nat.le_refl, reduceCtorEq, Nat.reduceAdd, Nat.reduceLT, Nat.reduceLeDiff, tk39, ts39, ta39, tk41, ts41, ta41]
    intro k hk
    by_cases q : k < x.len
    · simp only [q, if_true, Nat.not_lt_zero, if_false, renJs, renJ]
    · have : k - x.len = 0 := by omega
      simp only [q, this, List.take_succ_cons, List.take_nil, List.drop_zero, eq_self, Nat.zero_mul, ↓reduceIte, renJs, renJ]

def RN.ret (x : RN) : RN := match decide (x.last = 0) with | true => x | false => x.fall
def RN.retA (x : RN) (i : Nat) : SV := .tup [eRN x.ret i, word (match decide (x.last = 0) with | true => 0 | false => 3) (match decide (x.last = 0) with | true => 0 | false => x.number) (match decide (x.last = 0) with | true => 0 | false => x.last), ri (match decide (x.last = 0) with | true => 9 | false => 0)]

/-- A function of a node of the reference, whose asks lie in one block: that block is forgotten, another one holds the asks then. -/
def decRN (l : List SV) (B : AB) : RN :=
  ⟨ivn (tg l 0), ivn (tg l 1), ivn (tg l 2), ivn (tg l 3), ivn (tg l 4), lln (tg l 5), fun k => ivn (el0 (lstF B k)), fun k => ivn (el1 (lstF B k))⟩
def onRN (f : RN → SV × List AB) (pre : RN → Prop) (l : List SV) (H : List AB) : Res :=
  let i := lix (tg l 5)
  let x := decRN l (hget H i)
  ⟨((.agg l : SV) = ren (sig [i] H.length) (eRN x 0) ∧ subH (sig [i] H.length) H [i] [bRN x]) ∧ pre x, ren (sig [i] H.length) (f x).1, updH (sig [i] H.length) H [i] (f x).2⟩
theorem onRN_sound {E : Addr → Option Value} {fn : FuncId} {args : List SV} {f : RN → SV × List AB} {pre : RN → Prop} {l : List SV} {H : List AB} (hok : ∀ x, pre x → Ok Try.prog E fn (eRN x 0 :: args) [bRN x] (f x).1 (f x).2)
    (ha : ∀ τ : Nat → Nat, rens τ args = args) (hs : scs 1 args = true) (h : (onRN f pre l H).pre) : Ok Try.prog E fn (.agg l :: args) H (onRN f pre l H).val (onRN f pre l H).heap := by
  obtain ⟨⟨h1, h2⟩, h3⟩ := h
  have := (hok (decRN l (hget H (lix (tg l 5)))) h3).frame H [lix (tg l 5)] h2 (by simp) (by simp only [scs, sc, eRN, ri, List.length_cons, List.length_nil, hs]; rfl) (by simp only [bRN, hwk, bwk]; simp; intro k _; rfl)
  simp only [rens, ha] at this
  rw [h1]
  exact this

def ΓF : Con := fun f args H => match f with
  | .func 22 => match args with
    | [.agg l] => onRN (fun x => (eRN x.fall 1, [.dead, bRN x.fall])) (fun _ => True) l H
    | _ => no
  | _ => no
theorem ΓF_sound (E : Addr → Option Value) : Con.Sound Try.prog E ΓF := by
  intro f args H h
  unfold ΓF at h ⊢
  split at h
  · split at h
    · exact onRN_sound (args := []) (fun x _ => ok22 E x) (fun _ => rfl) rfl h
    · exact h.elim
  · exact h.elim

def pl24 : Nat → Plan
  | 3 => [([], 3), ([], 5), ([7, 1], 3), ([7, 1], 5)]
  | _ => []
set_option maxHeartbeats 1000000 in
set_option maxRecDepth 100000 in
theorem ok24 (E : Addr → Option Value) (x : RN) : Ok Try.prog E 24 [eRN x 0] [bRN x] (x.retA 1) [.dead, bRN x.ret] := by
  refine ok_of_engR (pl := pl24) mixed (ΓF_sound E) Try.func24 rfl rfl (by kernel_rfl) (by simp) 100 (fun F _ hG => ?_)
  cases h : decide (x.last = 0) with
  | true =>
    simp only [Try.f24, pl24, eRN, bRN, h, ri, eng, litSt, srunA_nil, srunA_b, stepR, contB_mk, r0, regC, sop, unw, strip, sev, tg, tset, tput, undefs, needs, opNeeds, sBin, ibin, shiftOp, selC, sLoad, sStore, sField, sNew, sAlloc, sBox, sFill, sBuild, cellsAt, hget, hset, hd1, vcells, one, splice, holeAt, idxAt, pushAt, nth, List.length_cons, List.length_nil, List.cons_append, List.nil_append, List.append_nil, List.map_cons, List.map_nil, List.take_succ_cons, List.take_zero, List.take_nil, List.drop_succ_cons, List.drop_zero, List.drop_nil, List.all_cons, List.all_nil, true_and, and_self, or_true, not_false_eq_true, eq_self, ne_eq, Bool.false_eq_true, Bool.and_self, Nat.zero_add, Nat.le_refl, reduceCtorEq, Value.oneCell', Nat.reduceAdd, Nat.reduceSub, Nat.reduceLeDiff, tk3, ta3, tk39, ts39, ta39, tz39, tf39_3, tk41, ts41, tz41, tpl41]
    exact hG [0, 0] _ _ _ ⟨trivial, rfl, by simp only [Try.f24, eRN, bRN, RN.retA, RN.ret, word, h, ri, renR, renJ, renJs, mvH, hgetO, memB, posG, jp, renJB, retP, sResults, sRes1, resK, retV, vwk, vwks, vwk1, hwk, bwk, sc, scs, tg, sLoad, cellsAt, hget, List.length_cons, List.length_nil, List.take_succ_cons, List.take_nil, List.drop_zero, and_self, implies_true, eq_self, Bool.and_self, decide_true, Nat.zero_add, Nat.le_refl, Nat.reduceAdd, Nat.reduceLT, Nat.reduceLeDiff, tk39, ts39, ta39, tk41, ts41, ta41]⟩
  | false =>
    simp only [Try.f24, pl24, ΓF, onRN, decRN, RN.fall, lix, lln, el0, el1, ivn, lstF, eRN, bRN, h, ri, renB, rens, ren, sig, subH, updH, eng, litSt, srunA_nil, srunA_b, stepR, contB_mk, r0, regC, sop, unw, strip, sev, tg, tset, tput, undefs, needs, opNeeds, sBin, ibin, shiftOp, gdst, onth, selC, sLoad, sStore, sField, sNew, sAlloc, sBox, sFill, sBuild, sCall, cellsAt, hget, hset, hd1, vcells, one, whole, splice, holeAt, idxAt, pushAt, nth, drawSt, preL, chkL, chk, chk2, stp, nxtB_mk, pref_0, pref_b, hpOf, effAt, effOp, pureOp, readOp, allocOp, holes, List.length_cons, List.length_nil, List.cons_append, List.nil_append, List.append_nil, List.map_cons, List.map_nil, List.take_succ_cons, List.take_zero, List.take_nil, List.drop_succ_cons, List.drop_zero, List.drop_nil, List.all_cons, List.all_nil, List.getElem?_cons_zero, List.getElem?_cons_succ, List.getElem?_nil, true_and, and_self, or_true, not_false_eq_true, eq_self, ne_eq, Bool.false_eq_true, Bool.not_true, Bool.not_false, Bool.and_false, Bool.and_self, Nat.zero_add, Nat.add_zero, Nat.le_refl, Option.getD_some, Option.getD_none, reduceCtorEq, Value.oneCell', Nat.reduceAdd, Nat.reduceSub, Nat.reduceLT, Nat.reduceLeDiff, tk3, ta3, tk39, ts39, ta39, tz39, tf39_0, tf39_3, tk41, ts41, tz41, tpl41]
    exact hG [0, 4] _ _ _ ⟨trivial, rfl, by simp only [Try.f24, eRN, bRN, RN.retA, RN.ret, RN.fall, word, h, ri, renR, renJ, renJs, mvH, hgetO, memB, posG, jp, renJB, retP, sResults, sRes1, resK, retV, vwk, vwks, vwk1, hwk, bwk, sc, scs, tg, sLoad, cellsAt, hget, List.length_cons, List.length_nil, List.take_succ_cons, List.take_nil, List.drop_zero, and_self, implies_true, eq_self, Bool.and_self, decide_true, decide_false, Nat.zero_add, Nat.le_refl, reduceCtorEq, Nat.reduceAdd, Nat.reduceLT, Nat.reduceLeDiff, tk39, ts39, ta39, tk41, ts41, ta41]⟩

def RN.at (x : RN) (m : Int) : Nat := firstAt (fun k => decide (x.an k = m)) 0 x.len
def RN.hit (x : RN) (m : Int) : Bool := decide (x.at m < x.len)
def RN.mine (x : RN) (k n m : Int) : Bool := valid k n m && decide (n = x.number)
def RN.gets (x : RN) (k n m : Int) : Bool := match x.mine k n m with
  | false => false
  | true => match decide (k = 2) with
    | false => false
    | true => x.hit m
def RN.hear (x : RN) (k n m : Int) : RN := match x.gets k n m with
  | false => x
  | true => { x with en := max x.en (IntKind.i64.wrap (x.av (x.at m) + x.term)), len := x.len - (x.at m + 1), an := fun k => x.an (x.at m + 1 + k), av := fun k => x.av (x.at m + 1 + k) }
def RN.hearE (x : RN) (k n m : Int) : Int := match x.mine k n m with | true => 0 | false => 2

def Γ20 : Con := fun f args H => match f with
  | .func 52 => c50 args H
  | _ => no
theorem Γ20_sound (E : Addr → Option Value) : Con.Sound Try.prog E Γ20 := by
  intro f args H h
  unfold Γ20 at h ⊢
  split at h
  · exact c52_sound h
  · exact h.elim

theorem int_ne_dec (a b : Int) : (!decide (a = b)) = decide (a ≠ b) := by simp

def junks : Nat → List SV
  | 0 => []
  | n + 1 => .junk :: junks n

def t20 (_x : RN) (_k _n _m : Int) (i : Nat) : List SV := [.junk, .junk, .ptr 1 0, .ptr 2 0, .ptr 3 0, .raw (.int .i64 0), ri (i : Int)] ++ junks 54
def h20 (x : RN) (k n m : Int) : List AB := [bRN x, .cells [ri x.number, ri x.term, ri x.clock, ri x.last, ri x.en, .lst 0 2 0 x.len] 39, .cells [ri k, ri n, ri m] 41, .cells [ri 0, ri 0, ri 0, ri 0, ri 0, .raw (.slice none 0 0)] 39]
def pl20 : Nat → Plan
  | _ => []
def py20 : Nat → Plan := pl20
set_option maxHeartbeats 1000000 in
set_option maxRecDepth 100000 in
theorem ok20 (E : Addr → Option Value) (x : RN) (k n m : Int) (hx : x.room) : Ok Try.prog E 20 [eRN x 0, word k n m] [bRN x] (.tup [eRN (x.hear k n m) 1, ri (x.hearE k n m)]) [.dead, bRN (x.hear k n m)] := by
  have hx' : x.len ≤ 1000000 := hx
  refine ok_of_engR (pl := pl20) mixed (Γ20_sound E) Try.func20 rfl rfl (by kernel_rfl) (by simp) 100 (fun F _ hG => ?_)
  cases hv : valid k n m with
  | false =>
    simp only [Try.f20, pl20, Γ20, c50, eRN, bRN, word, hv, ri, eng, litSt, srunA_nil, srunA_b, stepR, contB_mk, r0, r1, r2, regC, sop, unw, strip, sev, tg, tset, tput, undefs, needs, opNeeds, sBin, ibin, shiftOp, gb, gslot, gdst, onth, wants, sPick, selC, sLoad, sStore, sField, sNew, sAlloc, sBox, sCall, sUn, cellsAt, hget, hset, hd1, vcells, one, splice, holeAt, idxAt, pushAt, List.length_cons, List.length_nil, List.cons_append, List.nil_append, List.append_nil, List.map_cons, List.map_nil, List.take_succ_cons, List.take_zero, List.take_nil, List.drop_succ_cons, List.drop_zero, List.drop_nil, List.all_cons, List.all_nil, true_and, and_self, or_true, implies_true, imp_self, not_false_eq_true, eq_self, ne_eq, Bool.true_eq_false, Bool.false_eq_true, Bool.not_true, Bool.not_false, Bool.and_self, Bool.cond_true, Nat.zero_add, Nat.add_zero, Nat.le_refl, reduceCtorEq, Value.oneCell', ↓reduceIte, Nat.reduceAdd, Nat.reduceSub, Nat.reduceLeDiff, tk3, ta3, tk39, ts39, ta39, tz39, tf39_0, tk41, ts41, ta41, tf41_1]
    exact hG [0, 0] _ _ _ ⟨trivial, rfl, by simp only [Try.f20, eRN, bRN, RN.hear, RN.gets, RN.hearE, RN.mine, hv, ri, renR, renJ, renJs, mvH, hgetO, memB, posG, jp, renJB, retP, sResults, sRes1, resK, retV, vwk, vwks, vwk1, hwk, bwk, sc, scs, tg, sLoad, cellsAt, hget, List.length_cons, List.length_nil, List.take_succ_cons, List.take_nil, List.drop_zero, and_self, implies_true, eq_self, Bool.false_and, Bool.and_self, decide_true, Nat.zero_add, Nat.le_refl, Nat.reduceAdd, Nat.reduceLT, Nat.reduceLeDiff, tk39, ts39, ta39]⟩
  | true =>
    cases hn : decide (n = x.number) with
    | false =>
      simp only [Try.f20, pl20, Γ20, c50, eRN, bRN, word, hv, hn, ri, eng, litSt, srunA_nil, srunA_b, stepR, contB_mk, r0, r1, r2, regC, sop, unw, strip, sev, tg, tset, tput, undefs, needs, opNeeds, sBin, ibin, shiftOp, gb, gslot, gdst, onth, wants, sPick, selC, sLoad, sStore, sField, sNew, sAlloc, sBox, sCall, sUn, cellsAt, hget, hset, hd1, vcells, one, splice, holeAt, idxAt, pushAt, List.length_cons, List.length_nil, List.cons_append, List.nil_append, List.append_nil, List.map_cons, List.map_nil, List.take_succ_cons, List.take_zero, List.take_nil, List.drop_succ_cons, List.drop_zero, List.drop_nil, List.all_cons, List.all_nil, true_and, and_self, or_true, implies_true, not_false_eq_true, eq_self, ne_eq, Bool.false_eq_true, Bool.not_true, Bool.not_false, Bool.and_self, Bool.cond_false, Nat.zero_add, Nat.add_zero, Nat.le_refl, reduceCtorEq, Value.oneCell', ↓reduceIte, Nat.reduceAdd, Nat.reduceSub, Nat.reduceLeDiff, tk3, ta3, tk39, ts39, ta39, tz39, tf39_0, tk41, ts41, ta41, tf41_1]
      exact hG [0, 0] _ _ _ ⟨trivial, rfl, by simp only [Try.f20, eRN, bRN, RN.hear, RN.gets, RN.hearE, RN.mine, hv, hn, ri, renR, renJ, renJs, mvH, hgetO, memB, posG, jp, renJB, retP, sResults, sRes1, resK, retV, vwk, vwks, vwk1, hwk, bwk, sc, scs, tg, sLoad, cellsAt, hget, List.length_cons, List.length_nil, List.take_succ_cons, List.take_nil, List.drop_zero, and_self, implies_true, eq_self, Bool.and_false, Bool.and_self, decide_true, Nat.zero_add, Nat.le_refl, Nat.reduceAdd, Nat.reduceLT, Nat.reduceLeDiff, tk39, ts39, ta39]⟩
    | true =>
      cases hk : decide (k = 2) with
      | false =>
        simp only [Try.f20, pl20, Γ20, c50, eRN, bRN, word, hv, hn, hk, ri, eng, litSt, srunA_nil, srunA_b, stepR, contB_mk, r0, r1, r2, regC, sop, unw, strip, sev, tg, tset, tput, undefs, needs, opNeeds, sBin, ibin, shiftOp, gb, gslot, gdst, onth, wants, sPick, selC, sLoad, sStore, sField, sNew, sAlloc, sBox, sCall, sUn, cellsAt, hget, hset, hd1, vcells, one, splice, holeAt, idxAt, pushAt, List.length_cons, List.length_nil, List.cons_append, List.nil_append, List.append_nil, List.map_cons, List.map_nil, List.take_succ_cons, List.take_zero, List.take_nil, List.drop_succ_cons, List.drop_zero, List.drop_nil, List.all_cons, List.all_nil, true_and, and_self, or_true, implies_true, not_false_eq_true, eq_self, ne_eq, Bool.false_eq_true, Bool.not_true, Bool.not_false, Bool.and_self, Bool.cond_false, Nat.zero_add, Nat.add_zero, Nat.le_refl, reduceCtorEq, Value.oneCell', ↓reduceIte, Nat.reduceAdd, Nat.reduceSub, Nat.reduceLeDiff, tk3, ta3, tk39, ts39, ta39, tz39, tf39_0, tk41, ts41, ta41, tf41_0, tf41_1]
        exact hG [0, 0] _ _ _ ⟨trivial, rfl, by simp only [Try.f20, eRN, bRN, RN.hear, RN.gets, RN.hearE, RN.mine, hv, hn, hk, ri, renR, renJ, renJs, mvH, hgetO, memB, posG, jp, renJB, retP, sResults, sRes1, resK, retV, vwk, vwks, vwk1, hwk, bwk, sc, scs, tg, sLoad, cellsAt, hget, List.length_cons, List.length_nil, List.take_succ_cons, List.take_nil, List.drop_zero, and_self, implies_true, eq_self, Bool.and_self, decide_true, Nat.zero_add, Nat.le_refl, Nat.reduceAdd, Nat.reduceLT, Nat.reduceLeDiff, tk39, ts39, ta39]⟩
      | true =>
        simp only [Try.f20, pl20, Γ20, c50, eRN, bRN, word, hv, hn, hk, ri, eng, litSt, srunA_nil, srunA_b, stepR, contB_mk, r0, r1, r2, regC, sop, unw, strip, sev, tg, tset, tput, undefs, needs, opNeeds, sBin, ibin, shiftOp, gb, gslot, gdst, onth, wants, sPick, selC, sLoad, sField, sNew, sAlloc, sBox, sCall, sUn, cellsAt, hget, hd1, vcells, one, holeAt, idxAt, pushAt, List.length_cons, List.length_nil, List.cons_append, List.nil_append, List.map_cons, List.map_nil, List.take_succ_cons, List.take_zero, List.take_nil, List.drop_succ_cons, List.drop_zero, List.all_cons, List.all_nil, true_and, and_self, or_true, implies_true, not_false_eq_true, eq_self, ne_eq, Bool.false_eq_true, Bool.not_true, Bool.not_false, Bool.and_self, Bool.cond_false, Nat.zero_add, Nat.add_zero, Nat.le_refl, reduceCtorEq, Value.oneCell', ↓reduceIte, Nat.reduceAdd, Nat.reduceSub, Nat.reduceLeDiff, tk3, ta3, tz39, tf39_0, tk41, ts41, ta41, tf41_0, tf41_1]
        refine ⟨Nat, t20 x k n m, fun _ => h20 x k n m, fun i => i ≤ x.len ∧ ∀ j, j < i → decide (x.an j = m) = false, fun i => x.len - i, 0, ⟨Nat.zero_le _, fun j hj => by omega⟩, ⟨none, ?_⟩, ?_⟩
        · simp only [NwO, Nw, t20, h20, junks, bRN, ri, Int.natCast_zero, NwO, Nw, wk, vwks, vwk1, hwk, bwk, sc, scs, List.length_cons, List.length_nil, List.cons_append, List.nil_append, and_self, implies_true, eq_self, Bool.and_self, decide_true, Nat.zero_add, Nat.le_refl, Nat.reduceAdd, Nat.reduceLT, Nat.reduceLeDiff]
        · rintro i ⟨hi, hall⟩ F' hN hX
          simp only [t20, h20, junks, bRN, ri, pl20, eng, litSt, srunA_nil, srunA_b, stepR, contB_mk, r0, regC, sop, unw, strip, sev, tg, tset, tput, needs, opNeeds, sBin, ibin, shiftOp, gdst, onth, selC, sLoad, sStore, sMax, sField, sIndex, sLen, sSlice, sFill, sLit, sApp, sBuiltin, cellsAt, hget, hset, hd1, vcells, one, splice, holeAt, idxAt, pushAt, zrep, tgt, src, drawSt, preL, chkL, stp, nxtB_mk, pref_0, pref_b, allocOp, holes, List.length_cons, List.length_nil, List.cons_append, List.nil_append, List.append_nil, List.map_cons, List.map_nil, List.take_succ_cons, List.take_zero, List.take_nil, List.drop_succ_cons, List.drop_zero, List.drop_nil, List.all_cons, List.all_nil, true_and, and_true, and_self, or_true, not_false_eq_true, eq_self, ne_eq, Bool.false_eq_true, Bool.and_self, decide_true, Nat.zero_add, Nat.add_zero, Nat.zero_mul, Nat.le_refl, Int.toNat_natCast, Int.natCast_nonneg, reduceCtorEq, Value.oneCell', Nat.reduceAdd, Nat.reduceLT, Nat.reduceLeDiff, tk3, ts3, ta3, tk37, ts37, ta37, te37, tk39, ts39, ta39, tf39_1, tf39_4, tf39_5, tf41_2, tk102, ts102, tb102, tz102, tf102_0, tf102_1]
          cases hlt : decide ((i : Int) < x.len) with
          | false =>
            have hil : i = x.len := by simp at hlt; omega
            have hat : x.at m = x.len := firstAt_eq _ _ _ (Nat.zero_le _) (by omega) (fun j _ hj => hall j (by omega)) (fun h => by omega)
            have hh : x.hit m = false := by unfold RN.hit; rw [hat]; simp
            simp only []
            refine hX _ _ _ (by simp) ?_
            simp only [popF, pl20, eng, litSt, srunA_nil, srunA_b, stepR, contB_mk, r0, regC, sop, unw, strip, sev, tg, tset, tput, needs, opNeeds, popF, exitC, sLoad, sStore, cellsAt, hget, hset, vcells, one, splice, List.length_cons, List.length_nil, List.nil_append, List.append_nil, List.take_succ_cons, List.take_zero, List.take_nil, List.drop_succ_cons, List.drop_zero, List.drop_nil, List.all_cons, List.all_nil, true_and, and_self, eq_self, Bool.and_self, Nat.zero_add, Nat.le_refl, Value.oneCell', Nat.reduceAdd, Nat.reduceBEq, tk39, ts39, ta39]
            exact hG [0, 0] _ _ _ ⟨trivial, rfl, by simp only [Try.f20, eRN, bRN, RN.hear, RN.gets, RN.hearE, RN.mine, hv, hn, hk, hh, ri, renR, renJ, renJs, mvH, hgetO, memB, posG, jp, renJB, retP, sResults, sRes1, resK, retV, vwk, vwks, vwk1, hwk, bwk, sc, scs, tg, sLoad, cellsAt, hget, List.length_cons, List.length_nil, List.take_succ_cons, List.take_nil, List.drop_zero, and_self, implies_true, eq_self, Bool.and_self, decide_true, Nat.zero_add, Nat.le_refl, Nat.reduceAdd, Nat.reduceLT, Nat.reduceLeDiff, tk39, ts39, ta39]⟩
          | true =>
            have hil : i < x.len := by simp at hlt; omega
            have hlt' : ((i : Int) < x.len) = True := by simp; omega
            have hw : IntKind.i64.wrap ((i : Int) + 1) = i + 1 := wrap1 (by omega) (by omega)
            cases ha : decide (x.an i = m) with
            | true =>
              have hat : x.at m = i := firstAt_eq _ _ _ (Nat.zero_le _) (by omega) (fun j _ hj => hall j hj) (fun _ => ha)
              have hh : x.hit m = true := by unfold RN.hit; rw [hat]; simpa using hil
              have e1 : ((i : Int) + 1).toNat = i + 1 := by omega
              have e2 : (0 : Int) ≤ (i : Int) + 1 := by omega
              have e3 : (i : Int) + 1 ≤ x.len := by omega
              simp only [hlt', hil, hw, e1, e2, e3, true_and, and_self]
              refine ⟨⟨⟨by omega, (allK_spec _ _).2 (fun _ _ => trivial)⟩, by omega, by omega⟩, hX _ _ _ (by simp) ?_⟩
              simp only [popF, eng, popF]
              refine hG [0, 5] _ _ _ ⟨trivial, rfl, ?_⟩
              simp only [Try.f20, eRN, bRN, RN.hear, RN.gets, RN.hearE, RN.mine, hv, hn, hk, hh, hat, ri, renR, renJ, renJs, mvH, hgetO, memB, posG, jp, renJB, retP, sResults, sRes1, resK, retV, vwk, vwks, vwk1, hwk, bwk, sc, scs, tg, sLoad, cellsAt, hget, app, List.length_cons, List.length_nil, List.take_succ_cons, List.take_nil, List.drop_zero, true_and, and_true, and_self, implies_true, eq_self, Bool.and_self, decide_true, decide_false, Nat.zero_add, Nat.sub_zero, Nat.le_refl, reduceCtorEq, Nat.reduceAdd, Nat.reduceLT, Nat.reduceLeDiff, tk39, ts39, ta39]
              intro k hk
              simp only [Nat.not_lt_zero, if_false, renJs, renJ]
            | false =>
              simp only [hlt', hil, hw, true_and, and_self]
              refine hN none (i + 1) _ _ ⟨by omega, fun j hj => ?_⟩ (by simp only; omega) ?_
              · rcases Nat.lt_succ_iff_lt_or_eq.1 hj with q | q
                · exact hall j q
                · rw [q]; exact ha
              · simp only [NwO, Nw, t20, h20, junks, bRN, ri, Int.natCast_add, Int.natCast_one, NwO, Nw, wk, vwks, vwk1, hwk, bwk, sc, scs, List.length_cons, List.length_nil, List.cons_append, List.nil_append, and_self, implies_true, eq_self, Bool.and_self, decide_true, Nat.zero_add, Nat.le_refl, Nat.reduceAdd, Nat.reduceLT, Nat.reduceLeDiff]

def bsl (b : Bool) (x y : Int) : Int := match b with | true => x | false => y
def Nod.ask0 (x : Nod) : Int := bsl x.full 0 1
def Nod.ask1 (x : Nod) : Int := bsl x.full 0 x.number
def Nod.ask2 (x : Nod) : Int := bsl x.full 0 (IntKind.i64.wrap (x.last + 1))
def Nod.ask3 (x : Nod) : Int := bsl x.full 6 0
def Nod.ret0 (x : Nod) : Int := bsl (decide (x.last = 0)) 0 3
def Nod.ret1 (x : Nod) : Int := bsl (decide (x.last = 0)) 0 x.number
def Nod.ret2 (x : Nod) : Int := bsl (decide (x.last = 0)) 0 x.last
def Nod.ret3 (x : Nod) : Int := bsl (decide (x.last = 0)) 9 0
theorem ret_word (x : Nod) : x.retA = .tup [.agg [.raw (.int .i64 x.ret0), .raw (.int .i64 x.ret1), .raw (.int .i64 x.ret2)], .raw (.int .i64 x.ret3)] := by
  unfold Nod.retA Nod.retW word Nod.ret0 Nod.ret1 Nod.ret2 Nod.ret3 bsl
  cases decide (x.last = 0) <;> rfl
theorem ask_word (x : Nod) : x.askA = .tup [.agg [.raw (.int .i64 x.ask0), .raw (.int .i64 x.ask1), .raw (.int .i64 x.ask2)], .raw (.int .i64 x.ask3)] := by
  unfold Nod.askA Nod.askW word Nod.ask0 Nod.ask1 Nod.ask2 Nod.ask3 bsl
  cases x.full <;> rfl
end Go.Proofs.Ytmnpnnegnlhemaa.Eng
namespace Go.Proofs.Ytmnpnnegnlhemaa.Eng
open Go

structure Wd where
  c : Cen
  x0 : Nod
  x1 : Nod
  x2 : Nod
  sl : Nat
  sk : Nat → Int
  sn : Nat → Int
  sm : Nat → Int
  gap : Nat → Int
  edge : Nat → Int
  slow : Int

def dN : Nod := ⟨0, 0, 0, 0, 0, 0, 0, fun _ => 0, fun _ => 0⟩
def eW (p : Nat) (w : Wd) : SV := .agg [.ptr 0 0, .lst 3 1 0 p, .lst 4 3 0 w.sl, .lst 5 1 0 p, .lst 6 1 0 p, ri w.slow]
def bN (x : Nod) (i : Nat) : AB := .cells [ri x.now, rb true, ri x.number, ri x.term, ri x.en, ri x.last, .lst i 2 x.off x.len] 96
def lN (x : Nod) : AB := .lst (x.off + x.len) 2 (fun k => [ri (x.an k), ri (x.av k)]) 110
def hW1 (w : Wd) : List AB := encC w.c ++ [.lst 1 1 (fun k => lg [[.ptr 7 0]] k) 30, .lst w.sl 3 (fun k => [ri (w.sk k), ri (w.sn k), ri (w.sm k)]) 41, .lst 1 1 (fun k => [ri (w.gap k)]) 3, .lst 1 1 (fun k => [ri (w.edge k)]) 3, bN w.x0 8, lN w.x0]
def hW2 (w : Wd) : List AB := encC w.c ++ [.lst 2 1 (fun k => lg [[.ptr 7 0], [.ptr 9 0]] k) 30, .lst w.sl 3 (fun k => [ri (w.sk k), ri (w.sn k), ri (w.sm k)]) 41, .lst 2 1 (fun k => [ri (w.gap k)]) 3, .lst 2 1 (fun k => [ri (w.edge k)]) 3, bN w.x0 8, lN w.x0, bN w.x1 10, lN w.x1]
def hW3 (w : Wd) : List AB := encC w.c ++ [.lst 3 1 (fun k => lg [[.ptr 7 0], [.ptr 9 0], [.ptr 11 0]] k) 30, .lst w.sl 3 (fun k => [ri (w.sk k), ri (w.sn k), ri (w.sm k)]) 41, .lst 3 1 (fun k => [ri (w.gap k)]) 3, .lst 3 1 (fun k => [ri (w.edge k)]) 3, bN w.x0 8, lN w.x0, bN w.x1 10, lN w.x1, bN w.x2 12, lN w.x2]

def pix : SV → Nat
  | .ptr i _ => i
  | _ => 0

theorem Wd.eta1 (w : Wd) (h1 : w.x1 = dN) (h2 : w.x2 = dN) : (⟨w.c, w.x0, dN, dN, w.sl, w.sk, w.sn, w.sm, w.gap, w.edge, w.slow⟩ : Wd) = w := by
  cases w
  simp only at *
  subst h1 h2
  rfl
theorem hwk_hW1 (w : Wd) : hwk (hW1 w).length (hW1 w) (hW1 w) := by
  simp only [hW1, encC, bN, lN, ri, rb, vwks, vwk1, hwk, bwk, sc, scs, scEnts, lg, List.length_cons, List.length_nil, List.cons_append, List.nil_append, true_and, and_true, and_self, implies_true, eq_self, Bool.and_self, decide_true, Nat.zero_add, Nat.le_refl, Nat.reduceAdd, Nat.reduceLT] <;> (and_intros <;> intro k hk <;> (rcases k with _ | _ | _ | k <;> first | rfl | omega))
theorem ptrs1 (τ : Nat → Nat) (h7 : τ 7 = 7) : (fun k => rens τ (lg [[.ptr 7 0]] k)) = fun k => lg [[.ptr 7 0]] k := by
  funext k
  rcases k with _ | _ | _ | k <;> simp [lg, rens, ren, h7]
theorem renW1 (τ : Nat → Nat) (hτ : ∀ j, j < 9 → τ j = j) (u : Wd) : (hW1 u).map (renB τ) = hW1 u := by
  have hp := ptrs1 τ (hτ 7 (by decide))
  simp only [hW1, encC, bN, lN, ri, rb, List.cons_append, List.nil_append, List.map_cons, List.map_nil, renB, rens, ren, renEnts, hp, hτ 0 (by decide), hτ 1 (by decide), hτ 2 (by decide), hτ 8 (by decide)]
theorem extW1 {E : Addr → Option Value} {fn : FuncId} {args : List SV} {v : SV} (w w' : Wd) (X : List AB) (h : Ok Try.prog E fn (eW 1 w :: args) (hW1 w) v (hW1 w'))
    (ha : ∀ τ : Nat → Nat, rens τ args = args) (hs : scs 9 args = true) (hv : ∀ τ : Nat → Nat, (∀ j, j < 9 → τ j = j) → ren τ v = v) : Ok Try.prog E fn (eW 1 w :: args) (hW1 w ++ X) v (hW1 w' ++ X) := by
  have hτ : ∀ j, j < 9 → sig [0, 1, 2, 3, 4, 5, 6, 7, 8] (hW1 w ++ X).length j = j := by
    intro j hj
    rcases j with _ | _ | _ | _ | _ | _ | _ | _ | _ | j <;> first | rfl | omega
  have hb := fun u => renW1 _ hτ u
  have := h.frame (hW1 w ++ X) [0, 1, 2, 3, 4, 5, 6, 7, 8] ?_ (by decide) (by simp only [scs, eW, sc, ri, hW1, encC, List.length_cons, List.length_nil, List.length_append, hs]; rfl) (hwk_hW1 _)
  · have e1 : rens (sig [0, 1, 2, 3, 4, 5, 6, 7, 8] (hW1 w ++ X).length) (eW 1 w :: args) = eW 1 w :: args := by
      simp only [rens, ha, eW, ren, ri, hτ 0 (by decide), hτ 3 (by decide), hτ 4 (by decide), hτ 5 (by decide), hτ 6 (by decide)]
    rw [e1, hv _ hτ] at this
    refine (show updH (sig [0, 1, 2, 3, 4, 5, 6, 7, 8] (hW1 w ++ X).length) (hW1 w ++ X) [0, 1, 2, 3, 4, 5, 6, 7, 8] (hW1 w') = hW1 w' ++ X from ?_) ▸ this
    have e2 := hb w'
    revert e2
    generalize sig [0, 1, 2, 3, 4, 5, 6, 7, 8] (hW1 w ++ X).length = τ
    intro e2
    simp only [hW1, encC, List.cons_append, List.nil_append, List.map_cons, List.map_nil, List.cons.injEq] at e2 ⊢
    simp only [updH, hset, e2, List.map_nil, List.append_nil]
  · have e2 := hb w
    revert e2
    generalize hτ' : sig [0, 1, 2, 3, 4, 5, 6, 7, 8] (hW1 w ++ X).length = τ
    intro e2
    simp only [hW1, encC, List.cons_append, List.nil_append, List.map_cons, List.map_nil, List.cons.injEq] at e2 ⊢
    simp only [subH, hget, e2, List.length_cons, and_true]
    and_intros <;> omega

theorem Wd.eta2 (w : Wd) (h2 : w.x2 = dN) : (⟨w.c, w.x0, w.x1, dN, w.sl, w.sk, w.sn, w.sm, w.gap, w.edge, w.slow⟩ : Wd) = w := by
  cases w
  simp only at *
  subst h2
  rfl
theorem hwk_hW2 (w : Wd) : hwk (hW2 w).length (hW2 w) (hW2 w) := by
  simp only [hW2, encC, bN, lN, ri, rb, vwks, vwk1, hwk, bwk, sc, scs, scEnts, lg, List.length_cons, List.length_nil, List.cons_append, List.nil_append, true_and, and_true, and_self, implies_true, eq_self, Bool.and_self, decide_true, Nat.zero_add, Nat.le_refl, Nat.reduceAdd, Nat.reduceLT] <;> (and_intros <;> intro k hk <;> (rcases k with _ | _ | _ | k <;> first | rfl | omega))
theorem ptrs2 (τ : Nat → Nat) (h7 : τ 7 = 7) (h9 : τ 9 = 9) : (fun k => rens τ (lg [[.ptr 7 0], [.ptr 9 0]] k)) = fun k => lg [[.ptr 7 0], [.ptr 9 0]] k := by
  funext k
  rcases k with _ | _ | _ | k <;> simp [lg, rens, ren, h7, h9]
theorem renW2 (τ : Nat → Nat) (hτ : ∀ j, j < 11 → τ j = j) (u : Wd) : (hW2 u).map (renB τ) = hW2 u := by
  have hp := ptrs2 τ (hτ 7 (by decide)) (hτ 9 (by decide))
  simp only [hW2, encC, bN, lN, ri, rb, List.cons_append, List.nil_append, List.map_cons, List.map_nil, renB, rens, ren, renEnts, hp, hτ 0 (by decide), hτ 1 (by decide), hτ 2 (by decide), hτ 8 (by decide), hτ 10 (by decide)]
theorem extW2 {E : Addr → Option Value} {fn : FuncId} {args : List SV} {v : SV} (w w' : Wd) (X : List AB) (h : Ok Try.prog E fn (eW 2 w :: args) (hW2 w) v (hW2 w'))
    (ha : ∀ τ : Nat → Nat, rens τ args = args) (hs : scs 11 args = true) (hv : ∀ τ : Nat → Nat, (∀ j, j < 11 → τ j = j) → ren τ v = v) : Ok Try.prog E fn (eW 2 w :: args) (hW2 w ++ X) v (hW2 w' ++ X) := by
  have hτ : ∀ j, j < 11 → sig [0, 1, 2, 3, 4, 5, 6, 7, 8, 9, 10] (hW2 w ++ X).length j = j := by
    intro j hj
    rcases j with _ | _ | _ | _ | _ | _ | _ | _ | _ | _ | _ | j <;> first | rfl | omega
  have hb := fun u => renW2 _ hτ u
  have := h.frame (hW2 w ++ X) [0, 1, 2, 3, 4, 5, 6, 7, 8, 9, 10] ?_ (by decide) (by simp only [scs, eW, sc, ri, hW2, encC, List.length_cons, List.length_nil, List.length_append, hs]; rfl) (hwk_hW2 _)
  · have e1 : rens (sig [0, 1, 2, 3, 4, 5, 6, 7, 8, 9, 10] (hW2 w ++ X).length) (eW 2 w :: args) = eW 2 w :: args := by
      simp only [rens, ha, eW, ren, ri, hτ 0 (by decide), hτ 3 (by decide), hτ 4 (by decide), hτ 5 (by decide), hτ 6 (by decide)]
    rw [e1, hv _ hτ] at this
    refine (show updH (sig [0, 1, 2, 3, 4, 5, 6, 7, 8, 9, 10] (hW2 w ++ X).length) (hW2 w ++ X) [0, 1, 2, 3, 4, 5, 6, 7, 8, 9, 10] (hW2 w') = hW2 w' ++ X from ?_) ▸ this
    have e2 := hb w'
    revert e2
    generalize sig [0, 1, 2, 3, 4, 5, 6, 7, 8, 9, 10] (hW2 w ++ X).length = τ
    intro e2
    simp only [hW2, encC, List.cons_append, List.nil_append, List.map_cons, List.map_nil, List.cons.injEq] at e2 ⊢
    simp only [updH, hset, e2, List.map_nil, List.append_nil]
  · have e2 := hb w
    revert e2
    generalize hτ' : sig [0, 1, 2, 3, 4, 5, 6, 7, 8, 9, 10] (hW2 w ++ X).length = τ
    intro e2
    simp only [hW2, encC, List.cons_append, List.nil_append, List.map_cons, List.map_nil, List.cons.injEq] at e2 ⊢
    simp only [subH, hget, e2, List.length_cons, and_true]
    and_intros <;> omega

theorem Wd.eta3 (w : Wd)  : (⟨w.c, w.x0, w.x1, w.x2, w.sl, w.sk, w.sn, w.sm, w.gap, w.edge, w.slow⟩ : Wd) = w := by
  cases w
  rfl
theorem hwk_hW3 (w : Wd) : hwk (hW3 w).length (hW3 w) (hW3 w) := by
  simp only [hW3, encC, bN, lN, ri, rb, vwks, vwk1, hwk, bwk, sc, scs, scEnts, lg, List.length_cons, List.length_nil, List.cons_append, List.nil_append, true_and, and_true, and_self, implies_true, eq_self, Bool.and_self, decide_true, Nat.zero_add, Nat.le_refl, Nat.reduceAdd, Nat.reduceLT] <;> (and_intros <;> intro k hk <;> (rcases k with _ | _ | _ | k <;> first | rfl | omega))
theorem ptrs3 (τ : Nat → Nat) (h7 : τ 7 = 7) (h9 : τ 9 = 9) (h11 : τ 11 = 11) : (fun k => rens τ (lg [[.ptr 7 0], [.ptr 9 0], [.ptr 11 0]] k)) = fun k => lg [[.ptr 7 0], [.ptr 9 0], [.ptr 11 0]] k := by
  funext k
  rcases k with _ | _ | _ | k <;> simp [lg, rens, ren, h7, h9, h11]
theorem renW3 (τ : Nat → Nat) (hτ : ∀ j, j < 13 → τ j = j) (u : Wd) : (hW3 u).map (renB τ) = hW3 u := by
  have hp := ptrs3 τ (hτ 7 (by decide)) (hτ 9 (by decide)) (hτ 11 (by decide))
  simp only [hW3, encC, bN, lN, ri, rb, List.cons_append, List.nil_append, List.map_cons, List.map_nil, renB, rens, ren, renEnts, hp, hτ 0 (by decide), hτ 1 (by decide), hτ 2 (by decide), hτ 8 (by decide), hτ 10 (by decide), hτ 12 (by decide)]
theorem extW3 {E : Addr → Option Value} {fn : FuncId} {args : List SV} {v : SV} (w w' : Wd) (X : List AB) (h : Ok Try.prog E fn (eW 3 w :: args) (hW3 w) v (hW3 w'))
    (ha : ∀ τ : Nat → Nat, rens τ args = args) (hs : scs 13 args = true) (hv : ∀ τ : Nat → Nat, (∀ j, j < 13 → τ j = j) → ren τ v = v) : Ok Try.prog E fn (eW 3 w :: args) (hW3 w ++ X) v (hW3 w' ++ X) := by
  have hτ : ∀ j, j < 13 → sig [0, 1, 2, 3, 4, 5, 6, 7, 8, 9, 10, 11, 12] (hW3 w ++ X).length j = j := by
    intro j hj
    rcases j with _ | _ | _ | _ | _ | _ | _ | _ | _ | _ | _ | _ | _ | j <;> first | rfl | omega
  have hb := fun u => renW3 _ hτ u
  have := h.frame (hW3 w ++ X) [0, 1, 2, 3, 4, 5, 6, 7, 8, 9, 10, 11, 12] ?_ (by decide) (by simp only [scs, eW, sc, ri, hW3, encC, List.length_cons, List.length_nil, List.length_append, hs]; rfl) (hwk_hW3 _)
  · have e1 : rens (sig [0, 1, 2, 3, 4, 5, 6, 7, 8, 9, 10, 11, 12] (hW3 w ++ X).length) (eW 3 w :: args) = eW 3 w :: args := by
      simp only [rens, ha, eW, ren, ri, hτ 0 (by decide), hτ 3 (by decide), hτ 4 (by decide), hτ 5 (by decide), hτ 6 (by decide)]
    rw [e1, hv _ hτ] at this
    refine (show updH (sig [0, 1, 2, 3, 4, 5, 6, 7, 8, 9, 10, 11, 12] (hW3 w ++ X).length) (hW3 w ++ X) [0, 1, 2, 3, 4, 5, 6, 7, 8, 9, 10, 11, 12] (hW3 w') = hW3 w' ++ X from ?_) ▸ this
    have e2 := hb w'
    revert e2
    generalize sig [0, 1, 2, 3, 4, 5, 6, 7, 8, 9, 10, 11, 12] (hW3 w ++ X).length = τ
    intro e2
    simp only [hW3, encC, List.cons_append, List.nil_append, List.map_cons, List.map_nil, List.cons.injEq] at e2 ⊢
    simp only [updH, hset, e2, List.map_nil, List.append_nil]
  · have e2 := hb w
    revert e2
    generalize hτ' : sig [0, 1, 2, 3, 4, 5, 6, 7, 8, 9, 10, 11, 12] (hW3 w ++ X).length = τ
    intro e2
    simp only [hW3, encC, List.cons_append, List.nil_append, List.map_cons, List.map_nil, List.cons.injEq] at e2 ⊢
    simp only [subH, hget, e2, List.length_cons, and_true]
    and_intros <;> omega

def gapQ (w : Wd) (i : Nat) : Bool := decide (1000 < IntKind.i64.wrap (IntKind.i64.wrap (w.gap i + 1000) - w.edge i))
def Wd.may (w : Wd) (p : Nat) : Bool := decide (firstAt (gapQ w) 0 p = p)
theorem cast1 : ((1 : Nat) : Int) = 1 := rfl
theorem cast2 : ((2 : Nat) : Int) = 2 := rfl
theorem cast3 : ((3 : Nat) : Int) = 3 := rfl

def pl56 : Nat → Plan
  | _ => []

def t56_1 (i : Nat) : List SV := [.junk, .ptr 9 0, .junk, ri (i : Int)] ++ junks 20
set_option maxHeartbeats 1000000 in
set_option maxRecDepth 100000 in
theorem ok56_1 (E : Addr → Option Value) (w : Wd) : Ok Try.prog E 56 [eW 1 w] (hW1 w) (rb (w.may 1)) (hW1 w) := by
  refine ok_of_eng (pl := pl56) mixed (Γ0_sound E) Try.func56 rfl rfl (by kernel_rfl) (by simp) 100 (fun F hF => ?_)
  simp only [Try.f56, pl56, eW, hW1, encC, bN, lN, ri, rb, eng, litSt, srunA_nil, srunA_b, stepR, contB_mk, r0, regC, sop, unw, strip, sev, tg, tset, tput, undefs, needs, opNeeds, sBox, vcells, one, holeAt, idxAt, pushAt, lg, List.length_cons, List.length_nil, List.cons_append, List.nil_append, List.all_cons, List.all_nil, true_and, and_self, eq_self, Bool.and_self, Nat.zero_add, Value.oneCell', Nat.reduceAdd, Nat.reduceSub]
  refine ⟨Nat, t56_1, fun _ => hW1 w ++ [.cells [.ptr 0 0, .lst 3 1 0 1, .lst 4 3 0 w.sl, .lst 5 1 0 1, .lst 6 1 0 1, ri w.slow] 75], fun i => i ≤ 1 ∧ ∀ j, j < i → gapQ w j = false, fun i => 1 - i, 0, ⟨by omega, fun j hj => by omega⟩, ⟨none, ?_⟩, ?_⟩
  · simp only [NwO, Nw, t56_1, hW1, encC, bN, lN, junks, ri, rb, Int.natCast_zero, NwO, Nw, wk, vwks, vwk1, hwk, bwk, sc, scs, scEnts, lg, List.length_cons, List.length_nil, List.cons_append, List.nil_append, true_and, and_true, and_self, implies_true, eq_self, Bool.and_self, decide_true, Nat.zero_add, Nat.le_refl, Nat.reduceAdd, Nat.reduceLT, Nat.reduceLeDiff] <;> (and_intros <;> intro k hk <;> (rcases k with _ | _ | _ | k <;> first | rfl | omega))
  · rintro i ⟨hi, hall⟩ F' hN hX
    cases hlt : decide ((i : Int) < 1) with
    | false =>
      have hil : i = 1 := by simp at hlt; omega
      have hat : firstAt (gapQ w) 0 1 = 1 := firstAt_eq _ _ _ (Nat.zero_le _) (by omega) (fun j _ hj => hall j (by omega)) (fun h => by omega)
      have hm : w.may 1 = true := by unfold Wd.may; rw [hat]; rfl
      simp only [t56_1, hW1, encC, bN, lN, junks, ri, rb, pl56, cast1, hlt, eng, litSt, srunA_nil, srunA_b, stepR, contB_mk, r0, regC, sop, unw, strip, sev, tg, tset, tput, needs, opNeeds, sBin, ibin, shiftOp, selC, sLoad, sField, sLen, sBuiltin, cellsAt, hget, hd1, lg, List.length_cons, List.length_nil, List.cons_append, List.nil_append, List.map_cons, List.map_nil, List.take_succ_cons, List.take_zero, List.drop_succ_cons, List.drop_zero, true_and, and_self, or_true, not_false_eq_true, eq_self, ne_eq, Bool.false_eq_true, Nat.zero_add, reduceCtorEq, Nat.reduceAdd, Nat.reduceLeDiff, tk73, ta73, te73, tf75_3]
      refine hX _ _ _ (by simp) ?_
      simp only [popF, pl56, eng, litSt, srunA_nil, srunA_b, stepR, contB_mk, r0, regC, sop, unw, strip, sev, tset, tput, needs, opNeeds, popF, exitC, true_and, and_self, Nat.reduceBEq]
      exact hF _ _ _ ⟨trivial, by simp only [Try.f56, hW1, encC, bN, lN, hm, ri, rb, retP, sResults, sRes1, resK, retV, vwk, vwks, vwk1, hwk, bwk, sc, scs, scEnts, tg, lg, List.length_cons, List.length_nil, List.cons_append, List.nil_append, true_and, and_true, and_self, implies_true, eq_self, Bool.and_self, decide_true, Nat.zero_add, Nat.le_refl, Nat.reduceAdd, Nat.reduceLT] <;> (and_intros <;> intro k hk <;> (rcases k with _ | _ | _ | k <;> first | rfl | omega))⟩
    | true =>
      have hil : i < 1 := by simp at hlt; omega
      have hlt' : ((i : Int) < 1) = True := by simp; omega
      have hw : IntKind.i64.wrap ((i : Int) + 1) = i + 1 := wrap1 (by omega) (by omega)
      cases hq : gapQ w i with
      | true =>
        have hq' : decide (1000 < IntKind.i64.wrap (IntKind.i64.wrap (w.gap i + 1000) - w.edge i)) = true := hq
        have hat : firstAt (gapQ w) 0 1 = i := firstAt_eq _ _ _ (Nat.zero_le _) (by omega) (fun j _ hj => hall j hj) (fun _ => hq)
        have hm : w.may 1 = false := by unfold Wd.may; rw [hat]; simp; omega
        simp only [t56_1, hW1, encC, bN, lN, junks, ri, rb, pl56, cast1, hlt', hil, hq', eng, litSt, srunA_nil, srunA_b, stepR, contB_mk, r0, regC, sop, unw, strip, sev, tg, tset, tput, needs, opNeeds, sBin, ibin, shiftOp, gdst, onth, selC, sLoad, sField, sIndex, sLen, sBuiltin, cellsAt, hget, hd1, drawSt, preL, chkL, stp, nxtB_mk, pref_0, pref_b, allocOp, holes, lg, List.length_cons, List.length_nil, List.cons_append, List.nil_append, List.append_nil, List.map_cons, List.map_nil, List.take_succ_cons, List.take_zero, List.take_nil, List.drop_succ_cons, List.drop_zero, true_and, and_self, or_true, not_false_eq_true, eq_self, ne_eq, Bool.false_eq_true, decide_true, Nat.zero_add, Nat.le_refl, Int.toNat_natCast, Int.natCast_nonneg, reduceCtorEq, Nat.reduceAdd, Nat.reduceLeDiff, tk3, ts3, ta3, tk73, ta73, te73, tf75_3, tf75_4]
        refine hX _ _ _ (by simp) ?_
        simp only [popF, eng, popF]
        exact hF _ _ _ ⟨trivial, by simp only [Try.f56, hW1, encC, bN, lN, hm, ri, rb, retP, sResults, sRes1, resK, retV, vwk, vwks, vwk1, hwk, bwk, sc, scs, scEnts, tg, lg, List.length_cons, List.length_nil, List.cons_append, List.nil_append, true_and, and_true, and_self, implies_true, eq_self, Bool.and_self, decide_true, Nat.zero_add, Nat.le_refl, Nat.reduceAdd, Nat.reduceLT] <;> (and_intros <;> intro k hk <;> (rcases k with _ | _ | _ | k <;> first | rfl | omega))⟩
      | false =>
        have hq' : decide (1000 < IntKind.i64.wrap (IntKind.i64.wrap (w.gap i + 1000) - w.edge i)) = false := hq
        simp only [t56_1, hW1, encC, bN, lN, junks, ri, rb, pl56, cast1, hlt', hil, hq', hw, eng, litSt, srunA_nil, srunA_b, stepR, contB_mk, r0, regC, sop, unw, strip, sev, tg, tset, tput, needs, opNeeds, sBin, ibin, shiftOp, gdst, onth, selC, sLoad, sField, sIndex, sLen, sBuiltin, cellsAt, hget, hd1, drawSt, preL, chkL, stp, nxtB_mk, pref_0, pref_b, allocOp, holes, lg, List.length_cons, List.length_nil, List.cons_append, List.nil_append, List.append_nil, List.map_cons, List.map_nil, List.take_succ_cons, List.take_zero, List.take_nil, List.drop_succ_cons, List.drop_zero, true_and, and_self, or_true, not_false_eq_true, eq_self, ne_eq, Bool.false_eq_true, decide_true, Nat.zero_add, Nat.le_refl, Int.toNat_natCast, Int.natCast_nonneg, reduceCtorEq, Nat.reduceAdd, Nat.reduceLeDiff, tk3, ts3, ta3, tk73, ta73, te73, tf75_3, tf75_4]
        refine hN none (i + 1) _ _ ⟨by omega, fun j hj => ?_⟩ (by simp only; omega) ?_
        · rcases Nat.lt_succ_iff_lt_or_eq.1 hj with q | q
          · exact hall j q
          · rw [q]; exact hq
        · simp only [NwO, Nw, t56_1, hW1, encC, bN, lN, junks, ri, rb, Int.natCast_add, Int.natCast_one, NwO, Nw, wk, vwks, vwk1, hwk, bwk, sc, scs, scEnts, lg, List.length_cons, List.length_nil, List.cons_append, List.nil_append, true_and, and_true, and_self, implies_true, eq_self, Bool.and_self, decide_true, Nat.zero_add, Nat.le_refl, Nat.reduceAdd, Nat.reduceLT, Nat.reduceLeDiff] <;> (and_intros <;> intro k hk <;> (rcases k with _ | _ | _ | k <;> first | rfl | omega))

def t56_2 (i : Nat) : List SV := [.junk, .ptr 11 0, .junk, ri (i : Int)] ++ junks 20
set_option maxHeartbeats 1000000 in
set_option maxRecDepth 100000 in
theorem ok56_2 (E : Addr → Option Value) (w : Wd) : Ok Try.prog E 56 [eW 2 w] (hW2 w) (rb (w.may 2)) (hW2 w) := by
  refine ok_of_eng (pl := pl56) mixed (Γ0_sound E) Try.func56 rfl rfl (by kernel_rfl) (by simp) 100 (fun F hF => ?_)
  simp only [Try.f56, pl56, eW, hW2, encC, bN, lN, ri, rb, eng, litSt, srunA_nil, srunA_b, stepR, contB_mk, r0, regC, sop, unw, strip, sev, tg, tset, tput, undefs, needs, opNeeds, sBox, vcells, one, holeAt, idxAt, pushAt, lg, List.length_cons, List.length_nil, List.cons_append, List.nil_append, List.all_cons, List.all_nil, true_and, and_self, eq_self, Bool.and_self, Nat.zero_add, Value.oneCell', Nat.reduceAdd, Nat.reduceSub]
  refine ⟨Nat, t56_2, fun _ => hW2 w ++ [.cells [.ptr 0 0, .lst 3 1 0 2, .lst 4 3 0 w.sl, .lst 5 1 0 2, .lst 6 1 0 2, ri w.slow] 75], fun i => i ≤ 2 ∧ ∀ j, j < i → gapQ w j = false, fun i => 2 - i, 0, ⟨by omega, fun j hj => by omega⟩, ⟨none, ?_⟩, ?_⟩
  · simp only [NwO, Nw, t56_2, hW2, encC, bN, lN, junks, ri, rb, Int.natCast_zero, NwO, Nw, wk, vwks, vwk1, hwk, bwk, sc, scs, scEnts, lg, List.length_cons, List.length_nil, List.cons_append, List.nil_append, true_and, and_true, and_self, implies_true, eq_self, Bool.and_self, decide_true, Nat.zero_add, Nat.le_refl, Nat.reduceAdd, Nat.reduceLT, Nat.reduceLeDiff] <;> (and_intros <;> intro k hk <;> (rcases k with _ | _ | _ | k <;> first | rfl | omega))
  · rintro i ⟨hi, hall⟩ F' hN hX
    cases hlt : decide ((i : Int) < 2) with
    | false =>
      have hil : i = 2 := by simp at hlt; omega
      have hat : firstAt (gapQ w) 0 2 = 2 := firstAt_eq _ _ _ (Nat.zero_le _) (by omega) (fun j _ hj => hall j (by omega)) (fun h => by omega)
      have hm : w.may 2 = true := by unfold Wd.may; rw [hat]; rfl
      simp only [t56_2, hW2, encC, bN, lN, junks, ri, rb, pl56, cast2, hlt, eng, litSt, srunA_nil, srunA_b, stepR, contB_mk, r0, regC, sop, unw, strip, sev, tg, tset, tput, needs, opNeeds, sBin, ibin, shiftOp, selC, sLoad, sField, sLen, sBuiltin, cellsAt, hget, hd1, lg, List.length_cons, List.length_nil, List.cons_append, List.nil_append, List.map_cons, List.map_nil, List.take_succ_cons, List.take_zero, List.drop_succ_cons, List.drop_zero, true_and, and_self, or_true, not_false_eq_true, eq_self, ne_eq, Bool.false_eq_true, Nat.zero_add, reduceCtorEq, Nat.reduceAdd, Nat.reduceLeDiff, tk73, ta73, te73, tf75_3]
      refine hX _ _ _ (by simp) ?_
      simp only [popF, pl56, eng, litSt, srunA_nil, srunA_b, stepR, contB_mk, r0, regC, sop, unw, strip, sev, tset, tput, needs, opNeeds, popF, exitC, true_and, and_self, Nat.reduceBEq]
      exact hF _ _ _ ⟨trivial, by simp only [Try.f56, hW2, encC, bN, lN, hm, ri, rb, retP, sResults, sRes1, resK, retV, vwk, vwks, vwk1, hwk, bwk, sc, scs, scEnts, tg, lg, List.length_cons, List.length_nil, List.cons_append, List.nil_append, true_and, and_true, and_self, implies_true, eq_self, Bool.and_self, decide_true, Nat.zero_add, Nat.le_refl, Nat.reduceAdd, Nat.reduceLT] <;> (and_intros <;> intro k hk <;> (rcases k with _ | _ | _ | k <;> first | rfl | omega))⟩
    | true =>
      have hil : i < 2 := by simp at hlt; omega
      have hlt' : ((i : Int) < 2) = True := by simp; omega
      have hw : IntKind.i64.wrap ((i : Int) + 1) = i + 1 := wrap1 (by omega) (by omega)
      cases hq : gapQ w i with
      | true =>
        have hq' : decide (1000 < IntKind.i64.wrap (IntKind.i64.wrap (w.gap i + 1000) - w.edge i)) = true := hq
        have hat : firstAt (gapQ w) 0 2 = i := firstAt_eq _ _ _ (Nat.zero_le _) (by omega) (fun j _ hj => hall j hj) (fun _ => hq)
        have hm : w.may 2 = false := by unfold Wd.may; rw [hat]; simp; omega
        simp only [t56_2, hW2, encC, bN, lN, junks, ri, rb, pl56, cast2, hlt', hil, hq', eng, litSt, srunA_nil, srunA_b, stepR, contB_mk, r0, regC, sop, unw, strip, sev, tg, tset, tput, needs, opNeeds, sBin, ibin, shiftOp, gdst, onth, selC, sLoad, sField, sIndex, sLen, sBuiltin, cellsAt, hget, hd1, drawSt, preL, chkL, stp, nxtB_mk, pref_0, pref_b, allocOp, holes, lg, List.length_cons, List.length_nil, List.cons_append, List.nil_append, List.append_nil, List.map_cons, List.map_nil, List.take_succ_cons, List.take_zero, List.take_nil, List.drop_succ_cons, List.drop_zero, true_and, and_self, or_true, not_false_eq_true, eq_self, ne_eq, Bool.false_eq_true, decide_true, Nat.zero_add, Nat.le_refl, Int.toNat_natCast, Int.natCast_nonneg, reduceCtorEq, Nat.reduceAdd, Nat.reduceLeDiff, tk3, ts3, ta3, tk73, ta73, te73, tf75_3, tf75_4]
        refine hX _ _ _ (by simp) ?_
        simp only [popF, eng, popF]
        exact hF _ _ _ ⟨trivial, by simp only [Try.f56, hW2, encC, bN, lN, hm, ri, rb, retP, sResults, sRes1, resK, retV, vwk, vwks, vwk1, hwk, bwk, sc, scs, scEnts, tg, lg, List.length_cons, List.length_nil, List.cons_append, List.nil_append, true_and, and_true, and_self, implies_true, eq_self, Bool.and_self, decide_true, Nat.zero_add, Nat.le_refl, Nat.reduceAdd, Nat.reduceLT] <;> (and_intros <;> intro k hk <;> (rcases k with _ | _ | _ | k <;> first | rfl | omega))⟩
      | false =>
        have hq' : decide (1000 < IntKind.i64.wrap (IntKind.i64.wrap (w.gap i + 1000) - w.edge i)) = false := hq
        simp only [t56_2, hW2, encC, bN, lN, junks, ri, rb, pl56, cast2, hlt', hil, hq', hw, eng, litSt, srunA_nil, srunA_b, stepR, contB_mk, r0, regC, sop, unw, strip, sev, tg, tset, tput, needs, opNeeds, sBin, ibin, shiftOp, gdst, onth, selC, sLoad, sField, sIndex, sLen, sBuiltin, cellsAt, hget, hd1, drawSt, preL, chkL, stp, nxtB_mk, pref_0, pref_b, allocOp, holes, lg, List.length_cons, List.length_nil, List.cons_append, List.nil_append, List.append_nil, List.map_cons, List.map_nil, List.take_succ_cons, List.take_zero, List.take_nil, List.drop_succ_cons, List.drop_zero, true_and, and_self, or_true, not_false_eq_true, eq_self, ne_eq, Bool.false_eq_true, decide_true, Nat.zero_add, Nat.le_refl, Int.toNat_natCast, Int.natCast_nonneg, reduceCtorEq, Nat.reduceAdd, Nat.reduceLeDiff, tk3, ts3, ta3, tk73, ta73, te73, tf75_3, tf75_4]
        refine hN none (i + 1) _ _ ⟨by omega, fun j hj => ?_⟩ (by simp only; omega) ?_
        · rcases Nat.lt_succ_iff_lt_or_eq.1 hj with q | q
          · exact hall j q
          · rw [q]; exact hq
        · simp only [NwO, Nw, t56_2, hW2, encC, bN, lN, junks, ri, rb, Int.natCast_add, Int.natCast_one, NwO, Nw, wk, vwks, vwk1, hwk, bwk, sc, scs, scEnts, lg, List.length_cons, List.length_nil, List.cons_append, List.nil_append, true_and, and_true, and_self, implies_true, eq_self, Bool.and_self, decide_true, Nat.zero_add, Nat.le_refl, Nat.reduceAdd, Nat.reduceLT, Nat.reduceLeDiff] <;> (and_intros <;> intro k hk <;> (rcases k with _ | _ | _ | k <;> first | rfl | omega))

def t56_3 (i : Nat) : List SV := [.junk, .ptr 13 0, .junk, ri (i : Int)] ++ junks 20
set_option maxHeartbeats 1000000 in
set_option maxRecDepth 100000 in
theorem ok56_3 (E : Addr → Option Value) (w : Wd) : Ok Try.prog E 56 [eW 3 w] (hW3 w) (rb (w.may 3)) (hW3 w) := by
  refine ok_of_eng (pl := pl56) mixed (Γ0_sound E) Try.func56 rfl rfl (by kernel_rfl) (by simp) 100 (fun F hF => ?_)
  simp only [Try.f56, pl56, eW, hW3, encC, bN, lN, ri, rb, eng, litSt, srunA_nil, srunA_b, stepR, contB_mk, r0, regC, sop, unw, strip, sev, tg, tset, tput, undefs, needs, opNeeds, sBox, vcells, one, holeAt, idxAt, pushAt, lg, List.length_cons, List.length_nil, List.cons_append, List.nil_append, List.all_cons, List.all_nil, true_and, and_self, eq_self, Bool.and_self, Nat.zero_add, Value.oneCell', Nat.reduceAdd, Nat.reduceSub]
  refine ⟨Nat, t56_3, fun _ => hW3 w ++ [.cells [.ptr 0 0, .lst 3 1 0 3, .lst 4 3 0 w.sl, .lst 5 1 0 3, .lst 6 1 0 3, ri w.slow] 75], fun i => i ≤ 3 ∧ ∀ j, j < i → gapQ w j = false, fun i => 3 - i, 0, ⟨by omega, fun j hj => by omega⟩, ⟨none, ?_⟩, ?_⟩
  · simp only [NwO, Nw, t56_3, hW3, encC, bN, lN, junks, ri, rb, Int.natCast_zero, NwO, Nw, wk, vwks, vwk1, hwk, bwk, sc, scs, scEnts, lg, List.length_cons, List.length_nil, List.cons_append, List.nil_append, true_and, and_true, and_self, implies_true, eq_self, Bool.and_self, decide_true, Nat.zero_add, Nat.le_refl, Nat.reduceAdd, Nat.reduceLT, Nat.reduceLeDiff] <;> (and_intros <;> intro k hk <;> (rcases k with _ | _ | _ | k <;> first | rfl | omega))
  · rintro i ⟨hi, hall⟩ F' hN hX
    cases hlt : decide ((i : Int) < 3) with
    | false =>
      have hil : i = 3 := by simp at hlt; omega
      have hat : firstAt (gapQ w) 0 3 = 3 := firstAt_eq _ _ _ (Nat.zero_le _) (by omega) (fun j _ hj => hall j (by omega)) (fun h => by omega)
      have hm : w.may 3 = true := by unfold Wd.may; rw [hat]; rfl
      simp only [t56_3, hW3, encC, bN, lN, junks, ri, rb, pl56, cast3, hlt, eng, litSt, srunA_nil, srunA_b, stepR, contB_mk, r0, regC, sop, unw, strip, sev, tg, tset, tput, needs, opNeeds, sBin, ibin, shiftOp, selC, sLoad, sField, sLen, sBuiltin, cellsAt, hget, hd1, lg, List.length_cons, List.length_nil, List.cons_append, List.nil_append, List.map_cons, List.map_nil, List.take_succ_cons, List.take_zero, List.drop_succ_cons, List.drop_zero, true_and, and_self, or_true, not_false_eq_true, eq_self, ne_eq, Bool.false_eq_true, Nat.zero_add, reduceCtorEq, Nat.reduceAdd, Nat.reduceLeDiff, tk73, ta73, te73, tf75_3]
      refine hX _ _ _ (by simp) ?_
      simp only [popF, pl56, eng, litSt, srunA_nil, srunA_b, stepR, contB_mk, r0, regC, sop, unw, strip, sev, tset, tput, needs, opNeeds, popF, exitC, true_and, and_self, Nat.reduceBEq]
      exact hF _ _ _ ⟨trivial, by simp only [Try.f56, hW3, encC, bN, lN, hm, ri, rb, retP, sResults, sRes1, resK, retV, vwk, vwks, vwk1, hwk, bwk, sc, scs, scEnts, tg, lg, List.length_cons, List.length_nil, List.cons_append, List.nil_append, true_and, and_true, and_self, implies_true, eq_self, Bool.and_self, decide_true, Nat.zero_add, Nat.le_refl, Nat.reduceAdd, Nat.reduceLT] <;> (and_intros <;> intro k hk <;> (rcases k with _ | _ | _ | k <;> first | rfl | omega))⟩
    | true =>
      have hil : i < 3 := by simp at hlt; omega
      have hlt' : ((i : Int) < 3) = True := by simp; omega
      have hw : IntKind.i64.wrap ((i : Int) + 1) = i + 1 := wrap1 (by omega) (by omega)
      cases hq : gapQ w i with
      | true =>
        have hq' : decide (1000 < IntKind.i64.wrap (IntKind.i64.wrap (w.gap i + 1000) - w.edge i)) = true := hq
        have hat : firstAt (gapQ w) 0 3 = i := firstAt_eq _ _ _ (Nat.zero_le _) (by omega) (fun j _ hj => hall j hj) (fun _ => hq)
        have hm : w.may 3 = false := by unfold Wd.may; rw [hat]; simp; omega
        simp only [t56_3, hW3, encC, bN, lN, junks, ri, rb, pl56, cast3, hlt', hil, hq', eng, litSt, srunA_nil, srunA_b, stepR, contB_mk, r0, regC, sop, unw, strip, sev, tg, tset, tput, needs, opNeeds, sBin, ibin, shiftOp, gdst, onth, selC, sLoad, sField, sIndex, sLen, sBuiltin, cellsAt, hget, hd1, drawSt, preL, chkL, stp, nxtB_mk, pref_0, pref_b, allocOp, holes, lg, List.length_cons, List.length_nil, List.cons_append, List.nil_append, List.append_nil, List.map_cons, List.map_nil, List.take_succ_cons, List.take_zero, List.take_nil, List.drop_succ_cons, List.drop_zero, true_and, and_self, or_true, not_false_eq_true, eq_self, ne_eq, Bool.false_eq_true, decide_true, Nat.zero_add, Nat.le_refl, Int.toNat_natCast, Int.natCast_nonneg, reduceCtorEq, Nat.reduceAdd, Nat.reduceLeDiff, tk3, ts3, ta3, tk73, ta73, te73, tf75_3, tf75_4]
        refine hX _ _ _ (by simp) ?_
        simp only [popF, eng, popF]
        exact hF _ _ _ ⟨trivial, by simp only [Try.f56, hW3, encC, bN, lN, hm, ri, rb, retP, sResults, sRes1, resK, retV, vwk, vwks, vwk1, hwk, bwk, sc, scs, scEnts, tg, lg, List.length_cons, List.length_nil, List.cons_append, List.nil_append, true_and, and_true, and_self, implies_true, eq_self, Bool.and_self, decide_true, Nat.zero_add, Nat.le_refl, Nat.reduceAdd, Nat.reduceLT] <;> (and_intros <;> intro k hk <;> (rcases k with _ | _ | _ | k <;> first | rfl | omega))⟩
      | false =>
        have hq' : decide (1000 < IntKind.i64.wrap (IntKind.i64.wrap (w.gap i + 1000) - w.edge i)) = false := hq
        simp only [t56_3, hW3, encC, bN, lN, junks, ri, rb, pl56, cast3, hlt', hil, hq', hw, eng, litSt, srunA_nil, srunA_b, stepR, contB_mk, r0, regC, sop, unw, strip, sev, tg, tset, tput, needs, opNeeds, sBin, ibin, shiftOp, gdst, onth, selC, sLoad, sField, sIndex, sLen, sBuiltin, cellsAt, hget, hd1, drawSt, preL, chkL, stp, nxtB_mk, pref_0, pref_b, allocOp, holes, lg, List.length_cons, List.length_nil, List.cons_append, List.nil_append, List.append_nil, List.map_cons, List.map_nil, List.take_succ_cons, List.take_zero, List.take_nil, List.drop_succ_cons, List.drop_zero, true_and, and_self, or_true, not_false_eq_true, eq_self, ne_eq, Bool.false_eq_true, decide_true, Nat.zero_add, Nat.le_refl, Int.toNat_natCast, Int.natCast_nonneg, reduceCtorEq, Nat.reduceAdd, Nat.reduceLeDiff, tk3, ts3, ta3, tk73, ta73, te73, tf75_3, tf75_4]
        refine hN none (i + 1) _ _ ⟨by omega, fun j hj => ?_⟩ (by simp only; omega) ?_
        · rcases Nat.lt_succ_iff_lt_or_eq.1 hj with q | q
          · exact hall j q
          · rw [q]; exact hq
        · simp only [NwO, Nw, t56_3, hW3, encC, bN, lN, junks, ri, rb, Int.natCast_add, Int.natCast_one, NwO, Nw, wk, vwks, vwk1, hwk, bwk, sc, scs, scEnts, lg, List.length_cons, List.length_nil, List.cons_append, List.nil_append, true_and, and_true, and_self, implies_true, eq_self, Bool.and_self, decide_true, Nat.zero_add, Nat.le_refl, Nat.reduceAdd, Nat.reduceLT, Nat.reduceLeDiff] <;> (and_intros <;> intro k hk <;> (rcases k with _ | _ | _ | k <;> first | rfl | omega))
end Go.Proofs.Ytmnpnnegnlhemaa.Eng
namespace Go.Proofs.Ytmnpnnegnlhemaa.Eng
open Go

def pl41 : Nat → Plan
  | 13 => [([6], 0)]
  | 15 => [([3], 0)]
  | 17 => [([11], 0)]
  | 21 => [([11], 1), ([11], 3), ([11], 6), ([11], 10)]
  | 23 => [([21], 0)]
  | 35 => [([3], 0)]
  | 38 => [([6], 0)]
  | _ => []
theorem seqT : StructEq Try.prog 41 3 = True := eq_true seq41
def Wd.nd (w : Wd) (k : Nat) : Nod := match k with | 0 => w.x0 | 1 => w.x1 | _ => w.x2
def Wd.setN (w : Wd) (k : Nat) (x : Nod) : Wd := match k with | 0 => { w with x0 := x } | 1 => { w with x1 := x } | _ => { w with x2 := x }
def Wd.push (w : Wd) (k n m : Int) : Wd := { w with sl := w.sl + 1, sk := fun i => if i < w.sl then w.sk i else k, sn := fun i => if i < w.sl then w.sn i else n, sm := fun i => if i < w.sl then w.sm i else m }
def Wd.askN (w : Wd) (k : Nat) : Wd := (w.setN k (w.nd k).ask).push (w.nd k).ask0 (w.nd k).ask1 (w.nd k).ask2
def Wd.askB (w : Wd) (k : Nat) : Bool := decide ((w.nd k).ask3 = 0)
def Wd.retN (w : Wd) (k : Nat) : Wd := match decide ((w.nd k).ret3 = 0) with
  | true => (w.setN k (w.nd k).ret).push (w.nd k).ret0 (w.nd k).ret1 (w.nd k).ret2
  | false => w.setN k (w.nd k).ret
def Wd.retB (w : Wd) (k : Nat) : Bool := match decide ((w.nd k).ret3 = 0) with
  | true => true
  | false => decide ((w.nd k).ret3 = 9)
def Wd.brkN (w : Wd) (k : Nat) : Wd := w.setN k (w.nd k).fall
def Wd.hearN (w : Wd) (k : Nat) (j : Nat) : Wd := w.setN k ((w.nd k).hear (w.sk j) (w.sn j) (w.sm j))
def Wd.hearNB (w : Wd) (k : Nat) (j : Nat) : Bool := decide ((w.nd k).hearE (w.sk j) (w.sn j) (w.sm j) = 0)
def Wd.hearC (w : Wd) (j : Nat) : Wd := match w.c.reply (w.sk j) (w.sn j) (w.sm j) with
  | true => ({ w with c := w.c.hear (w.sk j) (w.sn j) (w.sm j) } : Wd).push 2 (w.sn j) (w.sm j)
  | false => { w with c := w.c.hear (w.sk j) (w.sn j) (w.sm j) }
def Wd.tickC (w : Wd) : Wd := { w with c := w.c.tick, gap := fun k => IntKind.i64.wrap (w.gap k + 1000) }
def Wd.gapT (w : Wd) (k : Nat) : Int := IntKind.i64.wrap (IntKind.i64.wrap (w.gap k - 1000) - w.slow)
def Wd.tickN (w : Wd) (k : Nat) : Wd := ({ w with gap := upd w.gap k (w.gapT k), edge := upd w.edge k (min (w.edge k) (w.gapT k)) } : Wd).setN k (w.nd k).tk
def eWs (p s : Nat) (w : Wd) : SV := .agg [.ptr 0 0, .lst 3 1 0 p, .lst s 3 0 w.sl, .lst 5 1 0 p, .lst 6 1 0 p, ri w.slow]
def lS (w : Wd) : AB := .lst w.sl 3 (fun k => [ri (w.sk k), ri (w.sn k), ri (w.sm k)]) 41
def gapI (w : Wd) (i k : Nat) : Int := match decide (k < i) with
  | true => IntKind.i64.wrap (w.gap k + 1000)
  | false => w.gap k
theorem gapI_s (w : Wd) (i k : Nat) : gapI w (i + 1) k = if k = i then IntKind.i64.wrap (w.gap i + 1000) else gapI w i k := by
  unfold gapI
  by_cases q : k = i
  · subst q; simp
  · rw [if_neg q]
    have : decide (k < i + 1) = decide (k < i) := by rw [decide_eq_decide]; omega
    rw [this]
theorem says_word (c : Cen) (k n m : Int) : c.ans k n m = .tup [.agg [.raw (.int .i64 (bsl (c.reply k n m) 2 0)), .raw (.int .i64 (bsl (c.reply k n m) n 0)), .raw (.int .i64 (bsl (c.reply k n m) m 0))], .raw (.int .i64 (c.err k n m))] := by
  unfold Cen.ans Cen.says word bsl
  cases c.reply k n m <;> rfl

/-- A function of a centre that lies first in the heap. -/
def onK (f : Cen → SV × Cen) (H : List AB) : Res :=
  ⟨H = encC (decC2 (hget H 0) (hget H 1)) ++ H.drop 3, (f (decC2 (hget H 0) (hget H 1))).1, encC (f (decC2 (hget H 0) (hget H 1))).2 ++ H.drop 3⟩
theorem renCs (τ : Nat → Nat) (h0 : τ 0 = 0) (h1 : τ 1 = 1) (h2 : τ 2 = 2) (u : Cen) : (encC u).map (renB τ) = encC u := by
  simp only [encC, ri, rb, List.map_cons, List.map_nil, renB, rens, ren, renEnts, h0, h1, h2]
theorem onK_sound {E : Addr → Option Value} {fn : FuncId} {args : List SV} {f : Cen → SV × Cen} {H : List AB} (hok : ∀ c, Ok Try.prog E fn (.ptr 0 0 :: args) (encC c) (f c).1 (encC (f c).2))
    (ha : ∀ τ : Nat → Nat, rens τ args = args) (hs : scs 3 args = true) (hv : ∀ c (τ : Nat → Nat), ren τ (f c).1 = (f c).1) (h : (onK f H).pre) : Ok Try.prog E fn (.ptr 0 0 :: args) H (onK f H).val (onK f H).heap := by
  have h' : H = encC (decC2 (hget H 0) (hget H 1)) ++ H.drop 3 := h
  show Ok Try.prog E fn (.ptr 0 0 :: args) H (f (decC2 (hget H 0) (hget H 1))).1 (encC (f (decC2 (hget H 0) (hget H 1))).2 ++ H.drop 3)
  revert h'
  generalize decC2 (hget H 0) (hget H 1) = c
  generalize H.drop 3 = X
  intro h'
  subst h'
  have := (hok c).frame (encC c ++ X) [0, 1, 2] ?_ (by decide) (by simp only [scs, sc, encC, List.length_cons, List.length_nil, hs]; rfl) (hwk_encC _)
  · have e1 : rens (sig [0, 1, 2] (encC c ++ X).length) (.ptr 0 0 :: args) = .ptr 0 0 :: args := by
      simp only [rens, ha, ren]; rfl
    rw [e1, hv] at this
    refine (show updH (sig [0, 1, 2] (encC c ++ X).length) (encC c ++ X) [0, 1, 2] (encC (f c).2) = encC (f c).2 ++ X from ?_) ▸ this
    have e2 := renCs (sig [0, 1, 2] (encC c ++ X).length) rfl rfl rfl (f c).2
    revert e2
    generalize sig [0, 1, 2] (encC c ++ X).length = τ
    intro e2
    simp only [encC, List.cons_append, List.nil_append, List.map_cons, List.map_nil, List.cons.injEq] at e2 ⊢
    simp only [updH, hset, e2, List.map_nil, List.append_nil]
  · have e2 := renCs (sig [0, 1, 2] (encC c ++ X).length) rfl rfl rfl c
    revert e2
    generalize sig [0, 1, 2] (encC c ++ X).length = τ
    intro e2
    simp only [encC, List.cons_append, List.nil_append, List.map_cons, List.map_nil, List.cons.injEq] at e2 ⊢
    simp only [subH, hget, e2, List.length_cons, and_true]
    and_intros <;> omega
def cK : Con := fun f args H => match f with
  | .func 29 => match args with
    | [.ptr 0 0, .raw (.int .i64 k)] => onK (fun c => (.raw (.int .i64 (c.wantE k)), c.want k)) H
    | _ => no
  | .func 31 => match args with
    | [.ptr 0 0, .agg [.raw (.int .i64 k), .raw (.int .i64 n), .raw (.int .i64 m)]] => onK (fun c => (c.ans k n m, c.hear k n m)) H
    | _ => no
  | .func 33 => match args with
    | [.ptr 0 0] => onK (fun c => (.raw (.int .i64 0), c.brk)) H
    | _ => no
  | .func 35 => match args with
    | [.ptr 0 0] => onK (fun c => (.raw (.int .i64 0), c.tick)) H
    | _ => no
  | .func 37 => match args with
    | [.ptr 0 0] => onK (fun c => (.tup [.raw (.int .i64 c.node), .raw (.int .i64 c.since)], c)) H
    | _ => no
  | .func 39 => match args with
    | [.ptr 0 0] => onK (fun c => (.raw (.bool c.holds), c)) H
    | _ => no
  | f => cM f args H
theorem cK_sound (E : Addr → Option Value) : Con.Sound Try.prog E cK := by
  intro f args H h
  unfold cK at h ⊢
  split at h
  · split at h
    · rename_i k
      exact onK_sound (args := [ri k]) (fun c => ok29 E c k) (fun _ => rfl) rfl (fun _ _ => rfl) h
    · exact h.elim
  · split at h
    · rename_i k n m
      exact onK_sound (args := [word k n m]) (fun c => ok31 E c k n m) (fun _ => rfl) rfl (fun _ _ => rfl) h
    · exact h.elim
  · split at h
    · exact onK_sound (args := []) (fun c => ok33 E c) (fun _ => rfl) rfl (fun _ _ => rfl) h
    · exact h.elim
  · split at h
    · exact onK_sound (args := []) (fun c => ok35 E c) (fun _ => rfl) rfl (fun _ _ => rfl) h
    · exact h.elim
  · split at h
    · exact onK_sound (args := []) (fun c => ok37 E c) (fun _ => rfl) rfl (fun _ _ => rfl) h
    · exact h.elim
  · split at h
    · exact onK_sound (args := []) (fun c => ok39 E c) (fun _ => rfl) rfl (fun _ _ => rfl) h
    · exact h.elim
  · exact cM_sound E f args H h
end Go.Proofs.Ytmnpnnegnlhemaa.Eng
namespace Go.Proofs.Ytmnpnnegnlhemaa.Eng
open Go

structure NInv (T t : Int) (x : Nod) (k : Nat) : Prop where
  number : x.number = k + 1
  term : x.term = T
  now0 : 0 ≤ x.now
  now : x.now ≤ t
  last0 : 0 ≤ x.last
  last : x.last ≤ t
  len : (x.len : Int) ≤ t
  en0 : 0 ≤ x.en
  en : x.en ≤ x.now + T
  ask : ∀ j, j < x.len → 1 ≤ x.an (x.off + j) ∧ x.an (x.off + j) ≤ x.last ∧ 0 ≤ x.av (x.off + j) ∧ x.av (x.off + j) ≤ x.now
  rise : ∀ i j, i < j → j < x.len → x.an (x.off + i) < x.an (x.off + j)

def granted (w : Wd) (k : Nat) (m : Int) : Prop := ∃ j, j < w.sl ∧ w.sk j = 2 ∧ w.sn j = k + 1 ∧ w.sm j = m
def live (T : Int) (ta : Nat → Int → Int) (e : Nat → Int) (w : Wd) (k : Nat) (m : Int) : Prop :=
  granted w k m ∧ (w.nd k).now < ta k m + T ∧ ((∃ j, j < (w.nd k).len ∧ (w.nd k).an ((w.nd k).off + j) = m) ∨ ((w.nd k).now < (w.nd k).en ∧ m = e k))

/-- What is always so, without the safety. -/
structure Base (p : Nat) (T S W t : Int) (w : Wd) : Prop where
  wait : w.c.wait = W
  n : w.c.n = p + 1
  now0 : 0 ≤ w.c.now
  now : w.c.now ≤ t
  since0 : 0 ≤ w.c.since
  since : w.c.since ≤ w.c.now
  slow : w.slow = S
  sl : (w.sl : Int) ≤ t
  nod : ∀ k, k < p → NInv T t (w.nd k) k
  gap : ∀ k, k < p → w.gap k = 1000 * w.c.now - (1000 + S) * (w.nd k).now
  edge : ∀ k, k < p → w.edge k ≤ w.gap k ∧ -(2000 * t) ≤ w.edge k
  sent : ∀ j, j < w.sl → (1 ≤ w.sk j ∧ w.sk j ≤ 3) ∧ (1 ≤ w.sn j ∧ w.sn j ≤ p) ∧ 1 ≤ w.sm j ∧ w.sm j ≤ (w.nd (w.sn j - 1).toNat).last
  gr : ∀ k, k < p → 0 ≤ w.c.gr (k + 1) ∧ w.c.gr (k + 1) ≤ (w.nd k).last

structure Safe (p : Nat) (T S : Int) (tc ta : Nat → Int → Int) (e : Nat → Int) (h : Nat) (w : Wd) : Prop where
  tce : ∀ k, k < p → ∀ m, 1 ≤ m → m ≤ (w.nd k).last → w.edge k ≤ 1000 * tc k m - (1000 + S) * ta k m ∧ tc k m ≤ w.c.now
  av : ∀ k, k < p → ∀ j, j < (w.nd k).len → (w.nd k).av ((w.nd k).off + j) = ta k ((w.nd k).an ((w.nd k).off + j))
  ende : ∀ k, k < p → (w.nd k).now < (w.nd k).en → granted w k (e k) ∧ (w.nd k).en = ta k (e k) + T
  ret : ∀ j, j < w.sl → w.sk j = 3 → ∀ k, k < p → w.sn j = k + 1 → (∀ i, i < (w.nd k).len → w.sm j < (w.nd k).an ((w.nd k).off + i)) ∧ ((w.nd k).now < (w.nd k).en → w.sm j < e k)
  gra : ∀ k, k < p → ∀ m, granted w k m → m ≤ w.c.gr (k + 1)
  lock : ∀ k, k < p → ∀ m, live T ta e w k m → w.c.node = k + 1 ∨ (w.c.node = -1 ∧ k = h)
  own : ∀ k, k < p → w.c.node = k + 1 → ∀ m, granted w k m → m ≤ w.c.number ∧ tc k m ≤ w.c.since
  lost : w.c.node = -1 → ∀ k, k < p → ∀ m, granted w k m → tc k m ≤ w.c.since

/-! ### The state's parts behind an event -/
theorem nd_setN (w : Wd) {k i : Nat} (hk : k < 3) (hi : i < 3) (x : Nod) : (w.setN k x).nd i = if i = k then x else w.nd i := by
  match k, i, hk, hi with
  | 0, 0, _, _ => rfl
  | 0, 1, _, _ => rfl
  | 0, 2, _, _ => rfl
  | 1, 0, _, _ => rfl
  | 1, 1, _, _ => rfl
  | 1, 2, _, _ => rfl
  | 2, 0, _, _ => rfl
  | 2, 1, _, _ => rfl
  | 2, 2, _, _ => rfl
theorem setN_rest (w : Wd) (k : Nat) (x : Nod) : (w.setN k x).c = w.c ∧ (w.setN k x).sl = w.sl ∧ (w.setN k x).sk = w.sk ∧ (w.setN k x).sn = w.sn ∧ (w.setN k x).sm = w.sm ∧ (w.setN k x).gap = w.gap ∧ (w.setN k x).edge = w.edge ∧ (w.setN k x).slow = w.slow := by
  unfold Wd.setN
  split <;> exact ⟨rfl, rfl, rfl, rfl, rfl, rfl, rfl, rfl⟩
theorem nd_push (w : Wd) (a b c : Int) (k : Nat) : (w.push a b c).nd k = w.nd k := by
  unfold Wd.nd Wd.push
  split <;> rfl

/-- A word more. -/
theorem granted_push {w : Wd} {a b c : Int} {k : Nat} {m : Int} : granted (w.push a b c) k m ↔ granted w k m ∨ (a = 2 ∧ b = k + 1 ∧ c = m) := by
  constructor
  · rintro ⟨j, hj, h1, h2, h3⟩
    simp only [Wd.push] at hj h1 h2 h3
    by_cases q : j < w.sl
    · simp only [q, if_true] at h1 h2 h3
      exact .inl ⟨j, q, h1, h2, h3⟩
    · simp only [q, if_false] at h1 h2 h3
      exact .inr ⟨h1, h2, h3⟩
  · rintro (⟨j, hj, h1, h2, h3⟩ | ⟨h1, h2, h3⟩)
    · exact ⟨j, by simp only [Wd.push]; omega, by simp only [Wd.push, hj, if_true]; exact h1, by simp only [Wd.push, hj, if_true]; exact h2, by simp only [Wd.push, hj, if_true]; exact h3⟩
    · exact ⟨w.sl, by simp only [Wd.push]; omega, by simp [Wd.push, h1], by simp [Wd.push, h2], by simp [Wd.push, h3]⟩

/-! ### Events -/
theorem NInv.mono {T t t' : Int} {x : Nod} {k : Nat} (h : NInv T t x k) (ht : t ≤ t') : NInv T t' x k :=
  ⟨h.number, h.term, h.now0, Int.le_trans h.now ht, h.last0, Int.le_trans h.last ht, Int.le_trans h.len ht, h.en0, h.en, h.ask, h.rise⟩
theorem NInv.fall {T t : Int} {x : Nod} {k : Nat} (hT : 0 ≤ T) (h : NInv T t x k) : NInv T t x.fall k :=
  ⟨h.number, h.term, h.now0, h.now, h.last0, h.last, by have := h.len; simp only [Nod.fall]; omega, h.now0, by simp only [Nod.fall]; omega, fun j hj => absurd hj (Nat.not_lt_zero _), fun i j _ hj => absurd hj (Nat.not_lt_zero _)⟩
theorem NInv.tk {T t : Int} {x : Nod} {k : Nat} (ht : t ≤ 1000000) (h : NInv T t x k) : NInv T (t + 1) x.tk k ∧ x.tk.now = x.now + 1 := by
  have h1 := h.now
  have h0 := h.now0
  have e : x.tk.now = x.now + 1 := by simp only [Nod.tk]; rw [w64 (by omega) (by omega)]
  refine ⟨⟨h.number, h.term, by omega, by omega, h.last0, by have := h.last; simp only [Nod.tk]; omega, by have := h.len; simp only [Nod.tk]; omega, h.en0, ?_, ?_, h.rise⟩, e⟩
  · have := h.en; rw [e]; simp only [Nod.tk]; omega
  · intro j hj
    obtain ⟨a, b, c, d⟩ := h.ask j hj
    rw [e]
    exact ⟨a, b, c, by simp only [Nod.tk] at d ⊢; omega⟩
theorem ask_plain {T t : Int} {x : Nod} {k : Nat} (ht : t ≤ 1000000) (h : NInv T t x k) : x.full = false ∧ IntKind.i64.wrap (x.last + 1) = x.last + 1 ∧ x.ask0 = 1 ∧ x.ask1 = k + 1 ∧ x.ask2 = x.last + 1 ∧ x.ask3 = 0 ∧
    x.ask = { x with last := x.last + 1, off := 0, len := x.len + 1, an := fun j => if j < x.len then x.an (x.off + j) else x.last + 1, av := fun j => if j < x.len then x.av (x.off + j) else x.now } := by
  have h1 := h.last
  have h0 := h.last0
  have hf : x.full = false := by unfold Nod.full; simp; omega
  have hw : IntKind.i64.wrap (x.last + 1) = x.last + 1 := w64 (by omega) (by omega)
  refine ⟨hf, hw, ?_, ?_, ?_, ?_, ?_⟩
  · unfold Nod.ask0 bsl; rw [hf]
  · unfold Nod.ask1 bsl; rw [hf]; exact h.number
  · unfold Nod.ask2 bsl; rw [hf]; exact hw
  · unfold Nod.ask3 bsl; rw [hf]
  · unfold Nod.ask Nod.add; rw [hf, hw]; rfl
theorem NInv.asked {T t : Int} {x : Nod} {k : Nat} (ht : t ≤ 1000000) (h : NInv T t x k) : NInv T (t + 1) x.ask k := by
  obtain ⟨_, _, _, _, _, _, e⟩ := ask_plain ht h
  have hl := h.last
  have hn := h.now
  have hl0 := h.last0
  rw [e]
  refine ⟨h.number, h.term, h.now0, by simp only; omega, by simp only; omega, by simp only; omega, by have := h.len; simp only; omega, h.en0, h.en, ?_, ?_⟩
  · intro j hj
    simp only [Nat.zero_add] at hj ⊢
    split
    · rename_i q
      obtain ⟨a, b, c, d⟩ := h.ask j q
      exact ⟨a, by omega, c, d⟩
    · exact ⟨by omega, by omega, h.now0, by omega⟩
  · intro i j hij hj
    simp only [Nat.zero_add] at hj ⊢
    have hi : i < x.len := by omega
    rw [if_pos hi]
    split
    · rename_i q; exact h.rise i j hij q
    · have := (h.ask i hi).2.1; omega

/-- The first place of a number. -/
theorem firstAt_t {p : Nat → Bool} {k n : Nat} (h : p k = true) : firstAt p k (n + 1) = k := by simp only [firstAt, h]
theorem firstAt_f {p : Nat → Bool} {k n : Nat} (h : p k = false) : firstAt p k (n + 1) = firstAt p (k + 1) n := by simp only [firstAt, h]
theorem firstAt_spec {p : Nat → Bool} : ∀ (n k : Nat), (firstAt p k n = k + n ∧ ∀ i, k ≤ i → i < k + n → p i = false) ∨ (k ≤ firstAt p k n ∧ firstAt p k n < k + n ∧ p (firstAt p k n) = true ∧ ∀ i, k ≤ i → i < firstAt p k n → p i = false)
  | 0, k => .inl ⟨by simp [firstAt], fun i h1 h2 => by omega⟩
  | n + 1, k => by
    cases hk : p k with
    | true => rw [firstAt_t hk]; exact .inr ⟨Nat.le_refl _, by omega, hk, fun i h1 h2 => by omega⟩
    | false =>
      rw [firstAt_f hk]
      rcases firstAt_spec (p := p) n (k + 1) with ⟨h1, h2⟩ | ⟨h1, h2, h3, h4⟩
      · refine .inl ⟨by rw [h1]; omega, fun i h3 h4 => ?_⟩
        by_cases q : i = k
        · rw [q]; exact hk
        · exact h2 i (by omega) (by omega)
      · refine .inr ⟨by omega, by omega, h3, fun i h5 h6 => ?_⟩
        by_cases q : i = k
        · rw [q]; exact hk
        · exact h4 i (by omega) h6

theorem at_spec (x : Nod) (m : Int) : (x.hit m = false ∧ ∀ i, i < x.len → x.an (x.off + i) ≠ m) ∨ (x.hit m = true ∧ x.at m < x.len ∧ x.an (x.off + x.at m) = m) := by
  unfold Nod.hit Nod.at
  rcases firstAt_spec (p := fun k => decide (x.an (x.off + k) = m)) x.len 0 with ⟨h1, h2⟩ | ⟨_, h2, h3, _⟩
  · left
    refine ⟨by rw [h1]; simp, fun i hi => ?_⟩
    have := h2 i (Nat.zero_le _) (by omega)
    simpa using this
  · right
    refine ⟨by simp; omega, by omega, by simpa using h3⟩

/-- A node that hears a Grant. -/
theorem hear_plain {T t : Int} {x : Nod} {k : Nat} (hT : 0 ≤ T ∧ T ≤ 1000000) (ht : t ≤ 1000000) (h : NInv T t x k) {a n m : Int} (hv : valid a n m = true) (hn : n = k + 1) (ha : a = 2) :
    x.hearE a n m = 0 ∧ ((x.hear a n m = x ∧ ∀ i, i < x.len → x.an (x.off + i) ≠ m) ∨
      (∃ j, j < x.len ∧ x.an (x.off + j) = m ∧ x.hear a n m = { x with en := max x.en (x.av (x.off + j) + T), off := x.off + (j + 1), len := x.len - (j + 1) })) := by
  have hm : x.mine a n m = true := by unfold Nod.mine; rw [hv, hn, h.number]; simp
  refine ⟨by unfold Nod.hearE; rw [hm]; rfl, ?_⟩
  have hg : x.gets a n m = x.hit m := by unfold Nod.gets; rw [hm, ha]; simp
  unfold Nod.hear
  rw [hg]
  rcases at_spec x m with ⟨h1, h2⟩ | ⟨h1, h2, h3⟩
  · left
    rw [h1]
    exact ⟨rfl, h2⟩
  · right
    refine ⟨x.at m, h2, h3, ?_⟩
    rw [h1]
    have e : x.takes m = { x with off := x.off + (x.at m + 1), len := x.len - (x.at m + 1) } := by unfold Nod.takes; rw [h1]
    obtain ⟨_, _, c, d⟩ := h.ask _ h2
    have hn := h.now
    simp only [e]
    rw [h.term, w64 (by omega) (by omega)]
theorem NInv.hear {T t : Int} {x : Nod} {k : Nat} (hT : 0 ≤ T ∧ T ≤ 1000000) (ht : t ≤ 1000000) (h : NInv T t x k) {a n m : Int} (hv : valid a n m = true) (hn : n = k + 1) (ha : a = 2) : NInv T t (x.hear a n m) k := by
  rcases (hear_plain hT ht h hv hn ha).2 with ⟨e, _⟩ | ⟨j, hj, _, e⟩
  · rw [e]; exact h
  · rw [e]
    obtain ⟨_, _, c, d⟩ := h.ask _ hj
    have he := h.en
    have he0 := h.en0
    refine ⟨h.number, h.term, h.now0, h.now, h.last0, h.last, by have := h.len; simp only; omega, by simp only; omega, by simp only; omega, ?_, ?_⟩
    · intro i hi
      simp only at hi ⊢
      rw [Nat.add_assoc]
      exact h.ask _ (by omega)
    · intro i i' hii hi
      simp only at hi ⊢
      have := h.rise (j + 1 + i) (j + 1 + i') (by omega) (by omega)
      simpa only [Nat.add_assoc] using this

/-! ### The base behind changes -/
theorem Base.mono {p : Nat} {T S W t t' : Int} {w : Wd} (h : Base p T S W t w) (ht : t ≤ t') : Base p T S W t' w :=
  ⟨h.wait, h.n, h.now0, Int.le_trans h.now ht, h.since0, h.since, h.slow, Int.le_trans h.sl ht, fun k hk => (h.nod k hk).mono ht, h.gap, fun k hk => ⟨(h.edge k hk).1, by have := (h.edge k hk).2; omega⟩, h.sent, h.gr⟩

theorem Base.setN {p : Nat} {T S W t : Int} {w : Wd} (hp : p ≤ 3) (h : Base p T S W t w) {k : Nat} (hk : k < p) {x : Nod} (hx : NInv T t x k) (hn : x.now = (w.nd k).now) (hl : (w.nd k).last ≤ x.last) : Base p T S W t (w.setN k x) := by
  obtain ⟨e1, e2, e3, e4, e5, e6, e7, e8⟩ := setN_rest w k x
  have nd : ∀ i, i < 3 → (w.setN k x).nd i = if i = k then x else w.nd i := fun i hi => nd_setN w (by omega) hi x
  refine ⟨by rw [e1]; exact h.wait, by rw [e1]; exact h.n, by rw [e1]; exact h.now0, by rw [e1]; exact h.now, by rw [e1]; exact h.since0, by rw [e1]; exact h.since, by rw [e8]; exact h.slow, by rw [e2]; exact h.sl, ?_, ?_, ?_, ?_, ?_⟩
  · intro i hi
    rw [nd i (by omega)]
    split
    · rename_i q; rw [q]; exact hx
    · exact h.nod i hi
  · intro i hi
    rw [nd i (by omega), e6, e1]
    split
    · rename_i q; rw [hn, q]; exact h.gap k hk
    · exact h.gap i hi
  · intro i hi
    rw [e6, e7]; exact h.edge i hi
  · intro j hj
    rw [e2] at hj
    rw [e3, e4, e5]
    obtain ⟨a, b, c, d⟩ := h.sent j hj
    refine ⟨a, b, c, ?_⟩
    rw [nd _ (by omega)]
    split
    · rename_i q; rw [q] at d; omega
    · exact d
  · intro i hi
    rw [e1, nd i (by omega)]
    have := h.gr i hi
    split
    · rename_i q; rw [q] at this ⊢; omega
    · exact this

theorem Base.push {p : Nat} {T S W t : Int} {w : Wd} (h : Base p T S W t w) (hs : (w.sl : Int) + 1 ≤ t) {a b c : Int} (ha : 1 ≤ a ∧ a ≤ 3) (hb : 1 ≤ b ∧ b ≤ p) (hc : 1 ≤ c ∧ c ≤ (w.nd (b - 1).toNat).last) : Base p T S W t (w.push a b c) := by
  refine ⟨h.wait, h.n, h.now0, h.now, h.since0, h.since, h.slow, by simp only [Wd.push]; omega, fun k hk => by rw [nd_push]; exact h.nod k hk, fun k hk => by rw [nd_push]; exact h.gap k hk, h.edge, ?_, fun k hk => by rw [nd_push]; exact h.gr k hk⟩
  intro j hj
  rw [nd_push]
  simp only [Wd.push] at hj ⊢
  split
  · rename_i q; exact h.sent j q
  · exact ⟨ha, hb, hc⟩

theorem Base.askN {p : Nat} {T S W t : Int} {w : Wd} (hp : p ≤ 3) (ht : t ≤ 1000000) (h : Base p T S W t w) {k : Nat} (hk : k < p) : Base p T S W (t + 1) (w.askN k) ∧ w.askB k = true := by
  have hx := h.nod k hk
  obtain ⟨_, _, a0, a1, a2, a3, e⟩ := ask_plain ht hx
  have hsl := h.sl
  have hl0 := hx.last0
  refine ⟨?_, by unfold Wd.askB; rw [a3]; rfl⟩
  unfold Wd.askN
  rw [a0, a1, a2]
  have b1 := (h.mono (t' := t + 1) (by omega)).setN hp hk (hx.asked ht) (by rw [e]) (by rw [e]; simp only; omega)
  refine b1.push (by rw [(setN_rest w k _).2.1]; omega) ⟨by omega, by omega⟩ ⟨by omega, by omega⟩ ⟨by omega, ?_⟩
  have ek : ((k : Int) + 1 - 1).toNat = k := by omega
  rw [ek, nd_setN w (by omega) (by omega), if_pos rfl, e]
  exact Int.le_refl _

theorem fall_plain (x : Nod) : x.ret = x ∧ x.last = 0 ∨ x.ret = x.fall ∧ x.last ≠ 0 := by
  unfold Nod.ret
  by_cases q : x.last = 0
  · left; simp [q]
  · right; simp [q]

theorem Base.retN {p : Nat} {T S W t : Int} {w : Wd} (hp : p ≤ 3) (hT : 0 ≤ T) (h : Base p T S W t w) {k : Nat} (hk : k < p) :
    Base p T S W (t + 1) (w.retN k) ∧ w.retB k = true ∧ ((w.nd k).last = 0 ∧ w.retN k = w.setN k (w.nd k) ∨ (w.nd k).last ≠ 0 ∧ w.retN k = (w.setN k (w.nd k).fall).push 3 (k + 1) (w.nd k).last) := by
  have hx := h.nod k hk
  have hl0 := hx.last0
  have hsl := h.sl
  have h' := h.mono (t' := t + 1) (by omega)
  unfold Wd.retN Wd.retB Nod.ret0 Nod.ret1 Nod.ret2 Nod.ret3
  by_cases q : (w.nd k).last = 0
  · have e : (w.nd k).ret = w.nd k := by unfold Nod.ret; simp [q]
    have b : decide (bsl (decide ((w.nd k).last = 0)) 9 0 = 0) = false := by rw [q]; rfl
    rw [b, e]
    refine ⟨?_, by rw [q]; rfl, .inl ⟨q, rfl⟩⟩
    exact h'.setN hp hk (hx.mono (by omega)) rfl (Int.le_refl _)
  · have e : (w.nd k).ret = (w.nd k).fall := by unfold Nod.ret; simp [q]
    have d : decide ((w.nd k).last = 0) = false := by simpa using q
    have b : decide (bsl (decide ((w.nd k).last = 0)) 9 0 = 0) = true := by rw [d]; rfl
    rw [b, e, d]
    have hnum : bsl false 0 (w.nd k).number = (k : Int) + 1 := hx.number
    rw [hnum]
    refine ⟨?_, rfl, .inr ⟨q, rfl⟩⟩
    have b1 := h'.setN hp hk ((hx.fall hT).mono (t' := t + 1) (by omega)) rfl (Int.le_refl _)
    refine b1.push (by rw [(setN_rest w k _).2.1]; omega) ⟨by decide, by decide⟩ ⟨by omega, by omega⟩ ⟨by show 1 ≤ (w.nd k).last; omega, ?_⟩
    have ek : ((k : Int) + 1 - 1).toNat = k := by omega
    rw [ek, nd_setN w (by omega) (by omega), if_pos rfl]
    exact Int.le_refl _

theorem Base.brkN {p : Nat} {T S W t : Int} {w : Wd} (hp : p ≤ 3) (hT : 0 ≤ T) (h : Base p T S W t w) {k : Nat} (hk : k < p) : Base p T S W (t + 1) (w.brkN k) :=
  (h.mono (t' := t + 1) (by omega)).setN hp hk (((h.nod k hk).fall hT).mono (by omega)) rfl (Int.le_refl _)

/-- The centre turned, with its clock and greatest numbers. -/
theorem Base.setC {p : Nat} {T S W t : Int} {w : Wd} (h : Base p T S W t w) {c : Cen} (h1 : c.wait = w.c.wait) (h2 : c.n = w.c.n) (h3 : c.now = w.c.now) (h4 : 0 ≤ c.since ∧ c.since ≤ c.now) (h5 : ∀ k, k < p → 0 ≤ c.gr (k + 1) ∧ c.gr (k + 1) ≤ (w.nd k).last) : Base p T S W t { w with c := c } :=
  ⟨by simp only; rw [h1]; exact h.wait, by simp only; rw [h2]; exact h.n, by simp only; rw [h3]; exact h.now0, by simp only; rw [h3]; exact h.now, h4.1, h4.2, h.slow, h.sl, h.nod, by simp only; rw [h3]; exact h.gap, h.edge, h.sent, h5⟩

theorem Base.brkC {p : Nat} {T S W t : Int} {w : Wd} (h : Base p T S W t w) : Base p T S W (t + 1) { w with c := w.c.brk } :=
  (h.mono (t' := t + 1) (by omega)).setC rfl rfl rfl ⟨h.now0, Int.le_refl _⟩ h.gr

/-! ### The safety behind changes -/
theorem granted_setN {w : Wd} {k i : Nat} {x : Nod} {m : Int} : granted (w.setN k x) i m ↔ granted w i m := by
  obtain ⟨_, e2, e3, e4, e5, _, _, _⟩ := setN_rest w k x
  unfold granted
  rw [e2, e3, e4, e5]

theorem granted_low {p : Nat} {T S W t : Int} {w : Wd} (h : Base p T S W t w) {k : Nat} {m : Int} (g : granted w k m) : 1 ≤ m ∧ m ≤ (w.nd k).last := by
  obtain ⟨j, hj, _, h2, h3⟩ := g
  obtain ⟨_, _, c, d⟩ := h.sent j hj
  have e : (w.sn j - 1).toNat = k := by rw [h2]; omega
  rw [e] at d
  omega

theorem Safe.setN {p : Nat} {T S : Int} {tc ta : Nat → Int → Int} {e : Nat → Int} {hh : Nat} {w : Wd} (hp : p ≤ 3) (h : Safe p T S tc ta e hh w) {k : Nat} (hk : k < p) {x : Nod} (ek : Int) (hn : x.now = (w.nd k).now) (hl : x.last = (w.nd k).last)
    (ha : ∀ j, j < x.len → ∃ i, i < (w.nd k).len ∧ x.an (x.off + j) = (w.nd k).an ((w.nd k).off + i) ∧ x.av (x.off + j) = (w.nd k).av ((w.nd k).off + i))
    (he : x.now < x.en → (x.en = (w.nd k).en ∧ ek = e k) ∨ ∃ i, i < (w.nd k).len ∧ ek = (w.nd k).an ((w.nd k).off + i) ∧ x.en = (w.nd k).av ((w.nd k).off + i) + T ∧ granted w k ek) :
    Safe p T S tc ta (fun i => if i = k then ek else e i) hh (w.setN k x) := by
  obtain ⟨e1, e2, e3, e4, e5, e6, e7, e8⟩ := setN_rest w k x
  have nd : ∀ i, i < 3 → (w.setN k x).nd i = if i = k then x else w.nd i := fun i hi => nd_setN w (by omega) hi x
  have low : ∀ i, i < p → ∀ m, live T ta (fun i => if i = k then ek else e i) (w.setN k x) i m → live T ta e w i m := by
    rintro i hi m ⟨g, l1, l2⟩
    rw [nd i (by omega)] at l1 l2
    refine ⟨granted_setN.1 g, ?_, ?_⟩
    · split at l1
      · rename_i q; rw [q] at l1 ⊢; rw [hn] at l1; exact l1
      · exact l1
    · split at l2
      · rename_i q
        subst q
        rcases l2 with ⟨j, hj, hm⟩ | ⟨hl2, hm⟩
        · obtain ⟨i', hi', ea, _⟩ := ha j hj
          exact .inl ⟨i', hi', by rw [← ea]; exact hm⟩
        · rcases he hl2 with ⟨ee, ek'⟩ | ⟨i', hi', ek', _, _⟩
          · exact .inr ⟨by rw [← hn, ← ee]; exact hl2, by rw [hm]; simp only [if_true]; exact ek'⟩
          · exact .inl ⟨i', hi', by rw [← ek', hm]; simp only [if_true]⟩
      · rename_i q
        simpa only [q, if_false] using l2
  refine ⟨?_, ?_, ?_, ?_, ?_, ?_, ?_, ?_⟩
  · intro i hi m h1 h2
    rw [nd i (by omega)] at h2
    rw [e7, e1]
    split at h2
    · rename_i q; rw [hl] at h2; rw [q]; exact h.tce k hk m h1 h2
    · exact h.tce i hi m h1 h2
  · intro i hi j hj
    rw [nd i (by omega)] at hj ⊢
    split at hj
    · rename_i q
      simp only [q, if_true] at hj ⊢
      obtain ⟨i', hi', ea, eb⟩ := ha j hj
      rw [ea, eb]
      exact h.av k hk i' hi'
    · rename_i q
      simp only [q, if_false]
      exact h.av i hi j hj
  · intro i hi hlt
    rw [nd i (by omega)] at hlt ⊢
    split at hlt
    · rename_i q
      simp only [q, if_true] at hlt ⊢
      rcases he hlt with ⟨ee, ek'⟩ | ⟨i', hi', ek', e3', g⟩
      · obtain ⟨g, e4'⟩ := h.ende k hk (by rw [← hn, ← ee]; exact hlt)
        rw [ek']
        exact ⟨granted_setN.2 g, by rw [ee]; exact e4'⟩
      · refine ⟨granted_setN.2 g, ?_⟩
        rw [e3', h.av k hk i' hi', ek']
    · rename_i q
      simp only [q, if_false]
      obtain ⟨g, e4'⟩ := h.ende i hi hlt
      exact ⟨granted_setN.2 g, e4'⟩
  · intro j hj hs i hi hn'
    rw [e2] at hj
    rw [e3] at hs
    rw [e4] at hn'
    rw [e5, nd i (by omega)]
    obtain ⟨r1, r2⟩ := h.ret j hj hs i hi hn'
    by_cases q : i = k
    · subst q
      rw [if_pos rfl]
      refine ⟨fun i' hi' => ?_, fun hlt => ?_⟩
      · obtain ⟨i2, hi2, ea, _⟩ := ha i' hi'
        rw [ea]
        exact r1 i2 hi2
      · show w.sm j < (if i = i then ek else e i)
        rw [if_pos rfl]
        rcases he hlt with ⟨ee, ek'⟩ | ⟨i2, hi2, ek', _, _⟩
        · rw [ek']; exact r2 (by rw [← hn, ← ee]; exact hlt)
        · rw [ek']; exact r1 i2 hi2
    · rw [if_neg q]
      refine ⟨r1, fun hlt => ?_⟩
      show w.sm j < (if i = k then ek else e i)
      rw [if_neg q]
      exact r2 hlt
  · intro i hi m g
    rw [e1]
    exact h.gra i hi m (granted_setN.1 g)
  · intro i hi m l
    rw [e1]
    exact h.lock i hi m (low i hi m l)
  · intro i hi hc m g
    rw [e1] at hc ⊢
    exact h.own i hi hc m (granted_setN.1 g)
  · intro hc i hi m g
    rw [e1] at hc ⊢
    exact h.lost hc i hi m (granted_setN.1 g)

/-- A word that is no Grant. -/
theorem Safe.push {p : Nat} {T S : Int} {tc ta : Nat → Int → Int} {e : Nat → Int} {hh : Nat} {w : Wd} (h : Safe p T S tc ta e hh w) {a b c : Int} (ha : a ≠ 2)
    (hr : a = 3 → ∀ k, k < p → b = k + 1 → (∀ i, i < (w.nd k).len → c < (w.nd k).an ((w.nd k).off + i)) ∧ ((w.nd k).now < (w.nd k).en → c < e k)) : Safe p T S tc ta e hh (w.push a b c) := by
  have gr : ∀ k m, granted (w.push a b c) k m ↔ granted w k m := by
    intro k m
    rw [granted_push]
    constructor
    · rintro (g | ⟨q, _⟩)
      · exact g
      · exact absurd q ha
    · exact .inl
  have lv : ∀ k m, live T ta e (w.push a b c) k m ↔ live T ta e w k m := by
    intro k m
    unfold live
    rw [gr, nd_push]
  refine ⟨fun k hk => by rw [nd_push]; exact h.tce k hk, fun k hk => by rw [nd_push]; exact h.av k hk, fun k hk => by rw [nd_push, gr]; exact h.ende k hk, ?_, fun k hk m g => h.gra k hk m ((gr k m).1 g), fun k hk m l => h.lock k hk m ((lv k m).1 l), fun k hk hc m g => h.own k hk hc m ((gr k m).1 g), fun hc k hk m g => h.lost hc k hk m ((gr k m).1 g)⟩
  intro j hj hs k hk hn
  rw [nd_push]
  simp only [Wd.push] at hj hs hn ⊢
  by_cases q : j < w.sl
  · simp only [q, if_true] at hs hn ⊢
    exact h.ret j q hs k hk hn
  · simp only [q, if_false] at hs hn ⊢
    exact hr hs k hk hn

theorem Safe.ask {p : Nat} {T S W t : Int} {tc ta : Nat → Int → Int} {e : Nat → Int} {hh : Nat} {w : Wd} (hp : p ≤ 3) (ht : t ≤ 1000000) (b : Base p T S W t w) (h : Safe p T S tc ta e hh w) {k : Nat} (hk : k < p) :
    Safe p T S (fun i m => if i = k ∧ m = (w.nd k).last + 1 then w.c.now else tc i m) (fun i m => if i = k ∧ m = (w.nd k).last + 1 then (w.nd k).now else ta i m) e hh (w.askN k) := by
  have hx := b.nod k hk
  obtain ⟨_, _, a0, a1, a2, a3, ea⟩ := ask_plain ht hx
  unfold Wd.askN
  rw [a0, a1, a2]
  obtain ⟨e1, e2, e3, e4, e5, e6, e7, e8⟩ := setN_rest w k (w.nd k).ask
  have nd : ∀ i, i < 3 → (w.setN k (w.nd k).ask).nd i = if i = k then (w.nd k).ask else w.nd i := fun i hi => nd_setN w (by omega) hi _
  have old : ∀ i m, granted w i m → ¬ (i = k ∧ m = (w.nd k).last + 1) := by
    rintro i m g ⟨rfl, rfl⟩
    have := (granted_low b g).2
    omega
  have low : ∀ i, i < p → ∀ m, live T (fun i m => if i = k ∧ m = (w.nd k).last + 1 then (w.nd k).now else ta i m) e (w.setN k (w.nd k).ask) i m → live T ta e w i m := by
    rintro i hi m ⟨g, l1, l2⟩
    have g' := granted_setN.1 g
    have o := old i m g'
    rw [nd i (by omega)] at l1 l2
    simp only [if_neg o] at l1
    refine ⟨g', ?_, ?_⟩
    · split at l1
      · rename_i q; rw [ea] at l1; rw [q] at l1 ⊢; exact l1
      · exact l1
    · split at l2
      · rename_i q
        subst q
        rcases l2 with ⟨j, hj, hm⟩ | ⟨hl2, hm⟩
        · rw [ea] at hj hm
          simp only [Nat.zero_add] at hj hm
          split at hm
          · rename_i q2; exact .inl ⟨j, q2, hm⟩
          · exact absurd ⟨rfl, hm.symm⟩ o
        · rw [ea] at hl2
          exact .inr ⟨hl2, hm⟩
      · exact l2
  refine Safe.push ?_ (by decide) (fun q => absurd q (by decide))
  refine ⟨?_, ?_, ?_, ?_, ?_, ?_, ?_, ?_⟩
  · intro i hi m h1 h2
    rw [nd i (by omega)] at h2
    rw [e7, e1]
    by_cases q : i = k ∧ m = (w.nd k).last + 1
    · rw [if_pos q, if_pos q]
      have g := b.gap k hk
      have ed := (b.edge k hk).1
      rw [q.1]
      omega
    · rw [if_neg q, if_neg q]
      split at h2
      · rename_i q2
        rw [ea] at h2
        simp only at h2
        rw [q2] at q ⊢
        exact h.tce k hk m h1 (by have : m ≠ (w.nd k).last + 1 := fun q3 => q ⟨rfl, q3⟩; omega)
      · exact h.tce i hi m h1 h2
  · intro i hi j hj
    rw [nd i (by omega)] at hj ⊢
    by_cases q : i = k
    · subst q
      simp only [if_true, true_and] at hj ⊢
      rw [ea] at hj ⊢
      simp only [Nat.zero_add] at hj ⊢
      by_cases q2 : j < (w.nd i).len
      · simp only [q2, if_true]
        have := (hx.ask j q2).2.1
        rw [if_neg (by omega)]
        exact h.av i hi j q2
      · simp only [q2, if_false, if_true]
    · simp only [q, if_false, false_and] at hj ⊢
      exact h.av i hi j hj
  · intro i hi hlt
    rw [nd i (by omega)] at hlt ⊢
    have go : (w.nd i).now < (w.nd i).en → granted (w.setN k (w.nd k).ask) i (e i) ∧ (w.nd i).en = (if i = k ∧ e i = (w.nd k).last + 1 then (w.nd k).now else ta i (e i)) + T := by
      intro hlt
      obtain ⟨g, e4'⟩ := h.ende i hi hlt
      rw [if_neg (old _ _ g)]
      exact ⟨granted_setN.2 g, e4'⟩
    by_cases q : i = k
    · subst q
      rw [if_pos rfl] at hlt ⊢
      have hlt2 : (w.nd i).now < (w.nd i).en := by rw [ea] at hlt; exact hlt
      have := go hlt2
      refine ⟨this.1, ?_⟩
      rw [ea]
      exact this.2
    · rw [if_neg q] at hlt ⊢
      exact go hlt
  · intro j hj hs i hi hn'
    rw [e2] at hj
    rw [e3] at hs
    rw [e4] at hn'
    rw [e5, nd i (by omega)]
    obtain ⟨r1, r2⟩ := h.ret j hj hs i hi hn'
    split
    · rename_i q
      subst q
      rw [ea]
      simp only [Nat.zero_add]
      refine ⟨fun i' hi' => ?_, r2⟩
      split
      · rename_i q2; exact r1 i' q2
      · obtain ⟨_, _, c, d⟩ := b.sent j hj
        have e : (w.sn j - 1).toNat = i := by rw [hn']; omega
        rw [e] at d
        omega
    · exact ⟨r1, r2⟩
  · intro i hi m g
    rw [e1]
    exact h.gra i hi m (granted_setN.1 g)
  · intro i hi m l
    rw [e1]
    exact h.lock i hi m (low i hi m l)
  · intro i hi hc m g
    have g' := granted_setN.1 g
    rw [e1] at hc ⊢
    rw [if_neg (old _ _ g')]
    exact h.own i hi hc m g'
  · intro hc i hi m g
    have g' := granted_setN.1 g
    rw [e1] at hc ⊢
    rw [if_neg (old _ _ g')]
    exact h.lost hc i hi m g'

end Go.Proofs.Ytmnpnnegnlhemaa.Eng
namespace Go.Proofs.Ytmnpnnegnlhemaa.Eng
open Go

theorem if_self_fun (e : Nat → Int) (k : Nat) : (fun i => if i = k then e k else e i) = e := by
  funext i
  split
  · rename_i q; rw [q]
  · rfl

theorem Safe.same {p : Nat} {T S : Int} {tc ta : Nat → Int → Int} {e : Nat → Int} {hh : Nat} {w : Wd} (hp : p ≤ 3) (h : Safe p T S tc ta e hh w) {k : Nat} (hk : k < p) : Safe p T S tc ta e hh (w.setN k (w.nd k)) := by
  have := h.setN hp hk (x := w.nd k) (e k) rfl rfl (fun j hj => ⟨j, hj, rfl, rfl⟩) (fun _ => .inl ⟨rfl, rfl⟩)
  rwa [if_self_fun] at this

theorem Safe.fall {p : Nat} {T S : Int} {tc ta : Nat → Int → Int} {e : Nat → Int} {hh : Nat} {w : Wd} (hp : p ≤ 3) (h : Safe p T S tc ta e hh w) {k : Nat} (hk : k < p) : Safe p T S tc ta e hh (w.setN k (w.nd k).fall) := by
  have := h.setN hp hk (x := (w.nd k).fall) (e k) rfl rfl (fun j hj => absurd hj (Nat.not_lt_zero _)) (fun hlt => absurd hlt (by simp only [Nod.fall]; omega))
  rwa [if_self_fun] at this

theorem Safe.retN {p : Nat} {T S W t : Int} {tc ta : Nat → Int → Int} {e : Nat → Int} {hh : Nat} {w : Wd} (hp : p ≤ 3) (hT : 0 ≤ T) (b : Base p T S W t w) (h : Safe p T S tc ta e hh w) {k : Nat} (hk : k < p) : Safe p T S tc ta e hh (w.retN k) := by
  rcases (b.retN hp hT hk).2.2 with ⟨_, e1⟩ | ⟨_, e1⟩
  · rw [e1]; exact h.same hp hk
  · rw [e1]
    refine (h.fall hp hk).push (by decide) (fun _ i hi hb => ?_)
    have q : i = k := by omega
    subst q
    rw [nd_setN w (by omega) (by omega), if_pos rfl]
    exact ⟨fun j hj => absurd hj (Nat.not_lt_zero _), fun hlt => absurd hlt (by simp only [Nod.fall]; omega)⟩

theorem valid_of {p : Nat} {T S W t : Int} {w : Wd} (hp : p ≤ 3) (ht : t ≤ 1000000) (b : Base p T S W t w) {j : Nat} (hj : j < w.sl) : valid (w.sk j) (w.sn j) (w.sm j) = true := by
  obtain ⟨h1, h2, h3, h4⟩ := b.sent j hj
  have hk : (w.sn j - 1).toNat < p := by omega
  have := (b.nod _ hk).last
  unfold valid
  simp
  omega

/-- A node hears the Grant that was sent as word j. -/
theorem hearN_ok {p : Nat} {T S W t : Int} {tc ta : Nat → Int → Int} {e : Nat → Int} {hh : Nat} {w : Wd} (hp : p ≤ 3) (hT : 0 ≤ T ∧ T ≤ 1000000) (ht : t ≤ 1000000) (b : Base p T S W t w) {k : Nat} (hk : k < p) {j : Nat} (hj : j < w.sl) (h2 : w.sk j = 2) (hn : w.sn j = k + 1) :
    Base p T S W t (w.hearN k j) ∧ w.hearNB k j = true ∧ (Safe p T S tc ta e hh w → ∃ e', Safe p T S tc ta e' hh (w.hearN k j)) := by
  have hv := valid_of hp ht b hj
  have hx := b.nod k hk
  obtain ⟨q1, q2⟩ := hear_plain hT ht hx hv hn h2
  refine ⟨b.setN hp hk (hx.hear hT ht hv hn h2) ?_ ?_, by unfold Wd.hearNB; rw [q1]; rfl, fun h => ?_⟩
  · rcases q2 with ⟨e1, _⟩ | ⟨i, _, _, e1⟩ <;> rw [e1]
  · rcases q2 with ⟨e1, _⟩ | ⟨i, _, _, e1⟩ <;> rw [e1] <;> exact Int.le_refl _
  · unfold Wd.hearN
    rcases q2 with ⟨e1, _⟩ | ⟨i, hi, hm, e1⟩
    · rw [e1]; exact ⟨e, h.same hp hk⟩
    · rw [e1]
      have g : granted w k (w.sm j) := ⟨j, hj, h2, hn, rfl⟩
      by_cases q : (w.nd k).av ((w.nd k).off + i) + T ≤ (w.nd k).en
      · refine ⟨_, h.setN hp hk (e k) rfl rfl (fun j' hj' => ⟨i + 1 + j', by simp only at hj'; omega, by simp only [Nat.add_assoc], by simp only [Nat.add_assoc]⟩) (fun _ => .inl ⟨by simp only; omega, rfl⟩)⟩
      · refine ⟨_, h.setN hp hk (w.sm j) rfl rfl (fun j' hj' => ⟨i + 1 + j', by simp only at hj'; omega, by simp only [Nat.add_assoc], by simp only [Nat.add_assoc]⟩) (fun _ => .inr ⟨i, hi, hm.symm, by simp only; omega, g⟩)⟩

/-- The centre turned: its clock is as it was. -/
theorem Safe.setC {p : Nat} {T S : Int} {tc ta : Nat → Int → Int} {e : Nat → Int} {hh h2 : Nat} {w : Wd} (h : Safe p T S tc ta e hh w) {c : Cen} (hn : c.now = w.c.now) (gra : ∀ k, k < p → ∀ m, granted w k m → m ≤ c.gr (k + 1))
    (lock : ∀ k, k < p → ∀ m, live T ta e w k m → c.node = k + 1 ∨ (c.node = -1 ∧ k = h2)) (own : ∀ k, k < p → c.node = k + 1 → ∀ m, granted w k m → m ≤ c.number ∧ tc k m ≤ c.since)
    (lost : c.node = -1 → ∀ k, k < p → ∀ m, granted w k m → tc k m ≤ c.since) : Safe p T S tc ta e h2 { w with c := c } :=
  ⟨fun k hk m h1 h2 => by have := h.tce k hk m h1 h2; exact ⟨this.1, by rw [show ({ w with c := c } : Wd).c.now = c.now from rfl, hn]; exact this.2⟩, h.av, h.ende, h.ret, gra, lock, own, lost⟩

theorem cen_ask {p : Nat} {T S W t : Int} {w : Wd} (hp : p ≤ 3) (ht : t ≤ 1000000) (b : Base p T S W t w) {j : Nat} (hj : j < w.sl) (h1 : w.sk j = 1) :
    w.c.err (w.sk j) (w.sn j) (w.sm j) = 0 ∧ w.c.hear (w.sk j) (w.sn j) (w.sm j) = w.c.ask (w.sn j) (w.sm j) ∧ w.c.reply (w.sk j) (w.sn j) (w.sm j) = w.c.got (w.sn j) (w.sm j) := by
  have hv := valid_of hp ht b hj
  obtain ⟨_, s2, _, _⟩ := b.sent j hj
  have hn : decide ((w.c.n : Int) ≤ w.sn j) = false := by rw [b.n]; simp; omega
  refine ⟨?_, ?_, ?_⟩
  · unfold Cen.err; rw [hv, hn]; rfl
  · unfold Cen.hear; rw [hv, hn, h1]; rfl
  · unfold Cen.reply; rw [hv, hn, h1]; rfl
theorem cen_back {p : Nat} {T S W t : Int} {w : Wd} (hp : p ≤ 3) (ht : t ≤ 1000000) (b : Base p T S W t w) {j : Nat} (hj : j < w.sl) (h1 : w.sk j = 3) :
    w.c.err (w.sk j) (w.sn j) (w.sm j) = 0 ∧ w.c.hear (w.sk j) (w.sn j) (w.sm j) = w.c.back (w.sn j) (w.sm j) ∧ w.c.reply (w.sk j) (w.sn j) (w.sm j) = false := by
  have hv := valid_of hp ht b hj
  obtain ⟨_, s2, _, _⟩ := b.sent j hj
  have hn : decide ((w.c.n : Int) ≤ w.sn j) = false := by rw [b.n]; simp; omega
  refine ⟨?_, ?_, ?_⟩
  · unfold Cen.err; rw [hv, hn]; rfl
  · unfold Cen.hear; rw [hv, hn, h1]; rfl
  · unfold Cen.reply; rw [hv, hn, h1]; rfl

theorem upd_at (f : Nat → Int) (n : Nat) (v : Int) (i : Nat) : upd f n v i = if i = n then v else f i := rfl

/-- The centre hears the word j, that is no Grant. -/
theorem hearC_ok {p : Nat} {T S W t : Int} {tc ta : Nat → Int → Int} {e : Nat → Int} {hh : Nat} {w : Wd} (hp : p ≤ 3) (ht : t ≤ 1000000) (b : Base p T S W t w) {j : Nat} (hj : j < w.sl) (h2 : w.sk j ≠ 2) :
    Base p T S W (t + 1) (w.hearC j) ∧ w.c.err (w.sk j) (w.sn j) (w.sm j) = 0 ∧ (Safe p T S tc ta e hh w → Safe p T S tc ta e hh (w.hearC j)) := by
  obtain ⟨s1, s2, s3, s4⟩ := b.sent j hj
  obtain ⟨k, hkn⟩ : ∃ k : Nat, w.sn j = k + 1 := ⟨(w.sn j - 1).toNat, by omega⟩
  have hk : k < p := by omega
  have ek : (w.sn j - 1).toNat = k := by omega
  have en : (w.sn j).toNat = k + 1 := by omega
  rw [ek] at s4
  have hg := b.gr k hk
  have hsl := b.sl
  have bm := b.mono (t' := t + 1) (by omega)
  have hc : w.sk j = 1 ∨ w.sk j = 3 := by omega
  unfold Wd.hearC
  rcases hc with h1 | h3
  · obtain ⟨c1, c2, c3⟩ := cen_ask hp ht b hj h1
    rw [c2, c3]
    by_cases ho : w.sm j ≤ w.c.gr (k + 1)
    · have o1 : w.c.ask (w.sn j) (w.sm j) = w.c := by unfold Cen.ask; rw [en]; simp [ho]
      have o2 : w.c.got (w.sn j) (w.sm j) = false := by unfold Cen.got; rw [en]; simp [ho]
      rw [o1, o2]
      exact ⟨bm, c1, fun h => h⟩
    · have od : decide (w.sm j ≤ w.c.gr (k + 1)) = false := by simpa using ho
      have gr' : ∀ i, i < p → 0 ≤ upd w.c.gr (k + 1) (w.sm j) (i + 1) ∧ upd w.c.gr (k + 1) (w.sm j) (i + 1) ≤ (w.nd i).last := by
        intro i hi
        rw [upd_at]
        split
        · rename_i q
          have : i = k := by omega
          subst this
          omega
        · exact b.gr i hi
      cases hgv : w.c.gives (w.sn j) with
      | false =>
        have o1 : w.c.ask (w.sn j) (w.sm j) = { w.c with gr := upd w.c.gr (k + 1) (w.sm j) } := by unfold Cen.ask; rw [en, od, hgv]; rfl
        have o2 : w.c.got (w.sn j) (w.sm j) = false := by unfold Cen.got; rw [hgv]; simp
        rw [o1, o2]
        refine ⟨bm.setC rfl rfl rfl ⟨b.since0, b.since⟩ gr', c1, fun h => ?_⟩
        refine h.setC rfl (fun i hi m g => ?_) h.lock h.own h.lost
        have := h.gra i hi m g
        show m ≤ upd w.c.gr (k + 1) (w.sm j) (i + 1)
        rw [upd_at]
        split
        · rename_i q; have : i = k := by omega
          subst this; omega
        · exact this
      | true =>
        have o1 : w.c.ask (w.sn j) (w.sm j) = { w.c with gr := upd w.c.gr (k + 1) (w.sm j), node := w.sn j, number := w.sm j, since := w.c.now } := by unfold Cen.ask; rw [en, od, hgv]; rfl
        have o2 : w.c.got (w.sn j) (w.sm j) = true := by unfold Cen.got; rw [en, od, hgv]; rfl
        rw [o1, o2]
        have b1 : Base p T S W (t + 1) { w with c := { w.c with gr := upd w.c.gr (k + 1) (w.sm j), node := w.sn j, number := w.sm j, since := w.c.now } } := bm.setC rfl rfl rfl ⟨b.now0, Int.le_refl _⟩ gr'
        have hgv' : w.c.node = 0 ∨ w.c.node = k + 1 := by
          unfold Cen.gives at hgv
          simp at hgv
          omega
        refine ⟨b1.push (by show (w.sl : Int) + 1 ≤ t + 1; omega) ⟨by decide, by decide⟩ s2 ⟨s3, by rw [ek]; exact s4⟩, c1, fun h => ?_⟩
        have lv : ∀ i, i < p → ∀ m, live T ta e (Wd.push { w with c := { w.c with gr := upd w.c.gr (k + 1) (w.sm j), node := w.sn j, number := w.sm j, since := w.c.now } } 2 (w.sn j) (w.sm j)) i m → i ≠ k → live T ta e w i m := by
          rintro i hi m ⟨g, l1, l2⟩ hne
          rw [nd_push] at l1 l2
          rcases granted_push.1 g with g | ⟨_, g2, _⟩
          · exact ⟨g, l1, l2⟩
          · exact absurd (show i = k by omega) hne
        refine ⟨fun i hi m m1 m2 => ?_, fun i hi => by rw [nd_push]; exact h.av i hi, fun i hi hlt => ?_, ?_, ?_, ?_, ?_, ?_⟩
        · rw [nd_push] at m2; exact h.tce i hi m m1 m2
        · rw [nd_push] at hlt ⊢
          obtain ⟨g, e1⟩ := h.ende i hi hlt
          exact ⟨granted_push.2 (.inl g), e1⟩
        · intro j' hj' hs i hi hn
          rw [nd_push]
          simp only [Wd.push] at hj' hs hn ⊢
          by_cases q : j' < w.sl
          · simp only [q, if_true] at hs hn ⊢
            exact h.ret j' q hs i hi hn
          · simp only [q, if_false] at hs
            exact absurd hs (by decide)
        · intro i hi m g
          show m ≤ upd w.c.gr (k + 1) (w.sm j) (i + 1)
          rw [upd_at]
          rcases granted_push.1 g with g | ⟨_, g2, g3⟩
          · have := h.gra i hi m g
            split
            · rename_i q; have : i = k := by omega
              subst this; omega
            · exact this
          · rw [if_pos (by omega)]; omega
        · intro i hi m l
          show w.sn j = i + 1 ∨ (w.sn j = -1 ∧ i = hh)
          by_cases q : i = k
          · left; omega
          · have := h.lock i hi m (lv i hi m l q)
            omega
        · intro i hi hc m g
          have q : i = k := by have : w.sn j = i + 1 := hc; omega
          subst q
          show m ≤ w.sm j ∧ tc i m ≤ w.c.now
          rcases granted_push.1 g with g | ⟨_, _, g3⟩
          · have g1 := h.gra i hi m g
            have g2 := granted_low b g
            exact ⟨by omega, (h.tce i hi m g2.1 g2.2).2⟩
          · have : m = w.sm j := g3.symm
            subst this
            exact ⟨Int.le_refl _, (h.tce i hi _ s3 s4).2⟩
        · intro hc
          have : w.sn j = -1 := hc
          omega
  · obtain ⟨c1, c2, c3⟩ := cen_back hp ht b hj h3
    rw [c2, c3]
    have gr' : ∀ i, i < p → 0 ≤ upd w.c.gr (k + 1) (max (w.c.gr (k + 1)) (w.sm j)) (i + 1) ∧ upd w.c.gr (k + 1) (max (w.c.gr (k + 1)) (w.sm j)) (i + 1) ≤ (w.nd i).last := by
      intro i hi
      rw [upd_at]
      split
      · rename_i q
        have : i = k := by omega
        subst this
        omega
      · exact b.gr i hi
    have gra' : Safe p T S tc ta e hh w → ∀ i, i < p → ∀ m, granted w i m → m ≤ upd w.c.gr (k + 1) (max (w.c.gr (k + 1)) (w.sm j)) (i + 1) := by
      intro h i hi m g
      have := h.gra i hi m g
      rw [upd_at]
      split
      · rename_i q; have : i = k := by omega
        subst this; omega
      · exact this
    cases hd : w.c.drops (w.sn j) (w.sm j) with
    | false =>
      have o1 : w.c.back (w.sn j) (w.sm j) = { w.c with gr := upd w.c.gr (k + 1) (max (w.c.gr (k + 1)) (w.sm j)) } := by unfold Cen.back; rw [hd, en]; rfl
      rw [o1]
      exact ⟨bm.setC rfl rfl rfl ⟨b.since0, b.since⟩ gr', c1, fun h => h.setC rfl (gra' h) h.lock h.own h.lost⟩
    | true =>
      have o1 : w.c.back (w.sn j) (w.sm j) = { w.c with gr := upd w.c.gr (k + 1) (max (w.c.gr (k + 1)) (w.sm j)), node := 0, number := 0, since := 0 } := by unfold Cen.back; rw [hd, en]; rfl
      rw [o1]
      have hd' : w.c.node = k + 1 ∧ w.c.number ≤ w.sm j := by
        unfold Cen.drops at hd
        simp at hd
        omega
      refine ⟨bm.setC rfl rfl rfl ⟨Int.le_refl _, b.now0⟩ gr', c1, fun h => h.setC rfl (gra' h) (fun i hi m l => ?_) (fun i hi hc => ?_) (fun hc => ?_)⟩
      · exfalso
        rcases h.lock i hi m l with q | ⟨q, _⟩
        · have : i = k := by omega
          subst this
          have o := (h.own i hi hd'.1 m l.1).1
          obtain ⟨r1, r2⟩ := h.ret j hj h3 i hi hkn
          rcases l.2.2 with ⟨i', hi', hm⟩ | ⟨hlt, hm⟩
          · have := r1 i' hi'; omega
          · have := r2 hlt; omega
        · omega
      · exact absurd hc (by show (0 : Int) ≠ i + 1; omega)
      · exact absurd hc (by show ¬ (0 : Int) = -1; decide)

end Go.Proofs.Ytmnpnnegnlhemaa.Eng
namespace Go.Proofs.Ytmnpnnegnlhemaa.Eng
open Go

theorem brkC_safe {p : Nat} {T S W t : Int} {tc ta : Nat → Int → Int} {e : Nat → Int} {hh : Nat} {w : Wd} (b : Base p T S W t w) (h : Safe p T S tc ta e hh w) : ∃ h2, Safe p T S tc ta e h2 { w with c := w.c.brk } := by
  have lost : ∀ k, k < p → ∀ m, granted w k m → tc k m ≤ w.c.now := fun k hk m g => by
    have := granted_low b g
    exact (h.tce k hk m this.1 this.2).2
  by_cases q : w.c.node = -1
  · exact ⟨hh, h.setC rfl h.gra (fun k hk m l => by
      rcases h.lock k hk m l with q2 | q2
      · omega
      · exact .inr ⟨rfl, q2.2⟩) (fun k hk hc => absurd hc (by show ¬ (-1 : Int) = k + 1; omega)) (fun _ => lost)⟩
  · exact ⟨(w.c.node - 1).toNat, h.setC rfl h.gra (fun k hk m l => by
      rcases h.lock k hk m l with q2 | q2
      · exact .inr ⟨rfl, by omega⟩
      · exact absurd q2.1 q) (fun k hk hc => absurd hc (by show ¬ (-1 : Int) = k + 1; omega)) (fun _ => lost)⟩

theorem want_c (c : Cen) (k : Int) : (c.want k).wait = c.wait ∧ (c.want k).n = c.n ∧ (c.want k).now = c.now ∧ (c.want k).since = c.since ∧ (c.want k).gr = c.gr ∧ (c.want k).node = c.node ∧ (c.want k).number = c.number := by
  unfold Cen.want
  split <;> exact ⟨rfl, rfl, rfl, rfl, rfl, rfl, rfl⟩

theorem want_ok {p : Nat} {T S W t : Int} {tc ta : Nat → Int → Int} {e : Nat → Int} {hh : Nat} {w : Wd} (hp : p ≤ 3) (b : Base p T S W t w) {v : Int} (h0 : 0 ≤ v) (h1 : v ≤ p) :
    Base p T S W (t + 1) { w with c := w.c.want v } ∧ w.c.wantE v = 0 ∧ (w.c.want v).wanted = v ∧ (Safe p T S tc ta e hh w → Safe p T S tc ta e hh { w with c := w.c.want v }) := by
  obtain ⟨e1, e2, e3, e4, e5, e6, e7⟩ := want_c w.c v
  have hw : (decide (0 ≤ v) && decide (v ≤ IntKind.i64.wrap (w.c.n - 1))) = true := by
    rw [b.n, w64 (by omega) (by omega)]
    simp
    omega
  refine ⟨(b.mono (t' := t + 1) (by omega)).setC e1 e2 e3 (by rw [e4, e3]; exact ⟨b.since0, b.since⟩) (by rw [e5]; exact b.gr), by unfold Cen.wantE; rw [hw]; rfl, by unfold Cen.want; rw [hw]; rfl, fun h => ?_⟩
  exact h.setC e3 (by rw [e5]; exact h.gra) (by rw [e6]; exact h.lock) (by rw [e6, e7, e4]; exact h.own) (by rw [e6, e4]; exact h.lost)

/-- What a tick of the centre does, in plain numbers. -/
theorem tick_plain {p : Nat} {T S W t : Int} {w : Wd} (ht : t ≤ 1000000) (hW : 0 ≤ W ∧ W ≤ 1000000) (b : Base p T S W t w) :
    (w.c.node ≠ 0 ∧ w.c.since + W ≤ w.c.now + 1 ∧ w.c.tick = { w.c with now := w.c.now + 1, node := 0, number := 0, since := 0 }) ∨ ((w.c.node = 0 ∨ w.c.now + 1 < w.c.since + W) ∧ w.c.tick = { w.c with now := w.c.now + 1 }) := by
  have h1 := b.now0
  have h2 := b.now
  have h3 := b.since0
  have h4 := b.since
  have h5 := b.wait
  have w1 : IntKind.i64.wrap (w.c.now + 1) = w.c.now + 1 := w64 (by omega) (by omega)
  have w2 : IntKind.i64.wrap (w.c.since + w.c.wait) = w.c.since + W := by rw [h5, w64 (by omega) (by omega)]
  have hk : w.c.tk = { w.c with now := w.c.now + 1 } := by unfold Cen.tk; rw [w1]
  unfold Cen.tick
  by_cases q : w.c.node ≠ 0 ∧ w.c.since + W ≤ w.c.now + 1
  · left
    have : w.c.out = true := by unfold Cen.out; rw [w1, w2]; simp [q.1, q.2]
    rw [if_pos this, hk]
    exact ⟨q.1, q.2, rfl⟩
  · right
    have : ¬ w.c.out = true := by
      unfold Cen.out
      rw [w1, w2]
      simp
      intro a
      by_cases z : w.c.since + W ≤ w.c.now + 1
      · exact absurd ⟨a, z⟩ q
      · omega
    rw [if_neg this, hk]
    refine ⟨?_, rfl⟩
    by_cases z : w.c.node = 0
    · exact .inl z
    · right
      by_cases z2 : w.c.since + W ≤ w.c.now + 1
      · exact absurd ⟨z, z2⟩ q
      · omega

theorem may_spec {p : Nat} {T S W t : Int} {w : Wd} (ht : t ≤ 1000000) (hS : 0 ≤ S ∧ S ≤ 1000) (b : Base p T S W t w) (hm : w.may p = true) : ∀ k, k < p → w.gap k ≤ w.edge k := by
  intro k hk
  have hx := b.nod k hk
  have h1 := hx.now0
  have h2 := hx.now
  have h3 := b.now0
  have h4 := b.now
  have g := b.gap k hk
  have ed := b.edge k hk
  have s1 : 0 ≤ (1000 + S) * (w.nd k).now := Int.mul_nonneg (by omega) h1
  have s2 : (1000 + S) * (w.nd k).now ≤ 2000 * 1000000 := Int.mul_le_mul (by omega) (by omega) h1 (by omega)
  unfold Wd.may at hm
  simp only [decide_eq_true_eq] at hm
  rcases firstAt_spec (p := gapQ w) p 0 with ⟨_, q⟩ | ⟨_, q, _⟩
  · have := q k (Nat.zero_le _) (by omega)
    unfold gapQ at this
    rw [w64 (n := w.gap k + 1000) (by omega) (by omega), w64 (by omega) (by omega)] at this
    simp at this
    omega
  · omega

theorem tickC_ok {p : Nat} {T S W t : Int} {tc ta : Nat → Int → Int} {e : Nat → Int} {hh : Nat} {w : Wd} (_hp : p ≤ 3) (ht : t ≤ 1000000) (_hT : 0 ≤ T) (hS : 0 ≤ S ∧ S ≤ 1000) (hW : 0 ≤ W ∧ W ≤ 1000000) (hWT : T * (1000 + S) ≤ 1000 * (W - 1)) (b : Base p T S W t w) (hm : w.may p = true) :
    Base p T S W (t + 1) w.tickC ∧ (Safe p T S tc ta e hh w → Safe p T S tc ta e hh w.tickC) := by
  have may := may_spec ht hS b hm
  have h3 := b.now0
  have h4 := b.now
  have hs0 := b.since0
  have hs1 := b.since
  have gp : ∀ k, k < p → IntKind.i64.wrap (w.gap k + 1000) = w.gap k + 1000 := by
    intro k hk
    have hx := b.nod k hk
    have h1 := hx.now0
    have h2 := hx.now
    have g := b.gap k hk
    have s1 : 0 ≤ (1000 + S) * (w.nd k).now := Int.mul_nonneg (by omega) h1
    have s2 : (1000 + S) * (w.nd k).now ≤ 2000 * 1000000 := Int.mul_le_mul (by omega) (by omega) h1 (by omega)
    exact w64 (by omega) (by omega)
  have base : ∀ c : Cen, c.wait = w.c.wait → c.n = w.c.n → c.now = w.c.now + 1 → (0 ≤ c.since ∧ c.since ≤ c.now) → c.gr = w.c.gr → Base p T S W (t + 1) { w with c := c, gap := fun k => IntKind.i64.wrap (w.gap k + 1000) } := by
    intro c k1 k2 k3 k4 k5
    refine ⟨by simp only; rw [k1]; exact b.wait, by simp only; rw [k2]; exact b.n, by simp only; omega, by simp only; omega, k4.1, k4.2, b.slow, by have := b.sl; simp only; omega, fun k hk => (b.nod k hk).mono (by omega), ?_, ?_, b.sent, ?_⟩
    · intro k hk
      simp only
      rw [gp k hk, k3]
      have := b.gap k hk
      show w.gap k + 1000 = 1000 * (w.c.now + 1) - (1000 + S) * (w.nd k).now
      omega
    · intro k hk
      simp only
      rw [gp k hk]
      have := b.edge k hk
      omega
    · intro k hk
      simp only
      rw [k5]
      exact b.gr k hk
  have safe : ∀ c : Cen, c.now = w.c.now + 1 → Safe p T S tc ta e hh w → (∀ k, k < p → ∀ m, granted w k m → m ≤ c.gr (k + 1)) → (∀ k, k < p → ∀ m, live T ta e w k m → c.node = k + 1 ∨ (c.node = -1 ∧ k = hh)) → (∀ k, k < p → c.node = k + 1 → ∀ m, granted w k m → m ≤ c.number ∧ tc k m ≤ c.since) →
      (c.node = -1 → ∀ k, k < p → ∀ m, granted w k m → tc k m ≤ c.since) → Safe p T S tc ta e hh { w with c := c, gap := fun k => IntKind.i64.wrap (w.gap k + 1000) } := by
    intro c k1 h g1 g2 g3 g4
    exact ⟨fun k hk m m1 m2 => by have := h.tce k hk m m1 m2; exact ⟨this.1, by show tc k m ≤ c.now; omega⟩, h.av, h.ende, h.ret, g1, g2, g3, g4⟩
  unfold Wd.tickC
  rcases tick_plain ht hW b with ⟨n0, exp, e1⟩ | ⟨_, e1⟩
  · rw [e1]
    refine ⟨base _ rfl rfl rfl ⟨Int.le_refl _, by simp only; omega⟩ rfl, fun h => safe _ rfl h h.gra (fun k hk m l => ?_) (fun k hk hc => absurd hc (by show ¬ (0 : Int) = k + 1; omega)) (fun hc => absurd hc (by show ¬ (0 : Int) = -1; decide))⟩
    exfalso
    have gl := granted_low b l.1
    have tce := (h.tce k hk m gl.1 gl.2).1
    have tcs : tc k m ≤ w.c.since := by
      rcases h.lock k hk m l with q | q
      · exact (h.own k hk q m l.1).2
      · exact h.lost q.1 k hk m l.1
    have g := b.gap k hk
    have my := may k hk
    have lt := l.2.1
    have s1 : (1000 + S) * ((w.nd k).now - ta k m) ≤ (1000 + S) * (T - 1) := Int.mul_le_mul_of_nonneg_left (by omega) (by omega)
    rw [Int.mul_sub, Int.mul_sub] at s1
    have s2 : (1000 + S) * T = T * (1000 + S) := Int.mul_comm _ _
    omega
  · rw [e1]
    exact ⟨base _ rfl rfl rfl ⟨hs0, by simp only; omega⟩ rfl, fun h => safe _ rfl h h.gra h.lock h.own h.lost⟩

theorem tickN_ok {p : Nat} {T S W t : Int} {tc ta : Nat → Int → Int} {e : Nat → Int} {hh : Nat} {w : Wd} (hp : p ≤ 3) (ht : t ≤ 1000000) (hS : 0 ≤ S ∧ S ≤ 1000) (b : Base p T S W t w) {k : Nat} (hk : k < p) :
    Base p T S W (t + 1) (w.tickN k) ∧ (Safe p T S tc ta e hh w → Safe p T S tc ta e hh (w.tickN k)) := by
  have hx := b.nod k hk
  obtain ⟨tk1, tk2⟩ := hx.tk ht
  have h1 := hx.now0
  have h2 := hx.now
  have h3 := b.now0
  have h4 := b.now
  have g := b.gap k hk
  have ed := b.edge k hk
  have s1 : 0 ≤ (1000 + S) * (w.nd k).now := Int.mul_nonneg (by omega) h1
  have s2 : (1000 + S) * (w.nd k).now ≤ (1000 + S) * t := Int.mul_le_mul_of_nonneg_left h2 (by omega)
  have s3 : (1000 + S) * t ≤ 2000 * t := Int.mul_le_mul_of_nonneg_right (by omega) (by omega)
  have s4 : (1000 + S) * ((w.nd k).now + 1) = (1000 + S) * (w.nd k).now + (1000 + S) := by rw [Int.mul_add, Int.mul_one]
  have gt : w.gapT k = w.gap k - 1000 - S := by
    unfold Wd.gapT
    rw [b.slow, w64 (n := w.gap k - 1000) (by omega) (by omega), w64 (by omega) (by omega)]
  unfold Wd.tickN
  obtain ⟨e1, e2, e3, e4, e5, e6, e7, e8⟩ := setN_rest ({ w with gap := upd w.gap k (w.gapT k), edge := upd w.edge k (min (w.edge k) (w.gapT k)) } : Wd) k (w.nd k).tk
  have nd : ∀ i, i < 3 → (({ w with gap := upd w.gap k (w.gapT k), edge := upd w.edge k (min (w.edge k) (w.gapT k)) } : Wd).setN k (w.nd k).tk).nd i = if i = k then (w.nd k).tk else w.nd i := fun i hi => nd_setN _ (by omega) hi _
  constructor
  · refine ⟨by rw [e1]; exact b.wait, by rw [e1]; exact b.n, by rw [e1]; exact h3, by rw [e1]; show w.c.now ≤ t + 1; omega, by rw [e1]; exact b.since0, by rw [e1]; exact b.since, by rw [e8]; exact b.slow, by rw [e2]; have := b.sl; show (w.sl : Int) ≤ t + 1; omega, ?_, ?_, ?_, ?_, ?_⟩
    · intro i hi
      rw [nd i (by omega)]
      split
      · rename_i q; rw [q]; exact tk1
      · exact (b.nod i hi).mono (by omega)
    · intro i hi
      rw [nd i (by omega), e6, e1]
      show upd w.gap k (w.gapT k) i = 1000 * w.c.now - _
      rw [upd_at]
      by_cases q : i = k
      · rw [if_pos q, if_pos q, tk2, gt, s4]
        omega
      · rw [if_neg q, if_neg q]; exact b.gap i hi
    · intro i hi
      rw [e6, e7]
      show upd w.edge k _ i ≤ upd w.gap k _ i ∧ _ ≤ upd w.edge k _ i
      rw [upd_at, upd_at]
      by_cases q : i = k
      · rw [if_pos q, if_pos q, gt]
        omega
      · rw [if_neg q, if_neg q]
        have := b.edge i hi
        omega
    · intro j hj
      rw [e2] at hj
      rw [e3, e4, e5]
      obtain ⟨a1, a2, a3, a4⟩ := b.sent j hj
      refine ⟨a1, a2, a3, ?_⟩
      have hj' : (w.sn j - 1).toNat < 3 := by omega
      show w.sm j ≤ _
      rw [nd _ hj']
      split
      · rename_i q; rw [q] at a4; exact a4
      · exact a4
    · intro i hi
      rw [e1, nd i (by omega)]
      have := b.gr i hi
      split
      · rename_i q; subst q; exact this
      · exact this
  · intro h
    have gs : ∀ {i : Nat} {m : Int}, granted (({ w with gap := upd w.gap k (w.gapT k), edge := upd w.edge k (min (w.edge k) (w.gapT k)) } : Wd).setN k (w.nd k).tk) i m → granted w i m := fun g => by have := granted_setN.1 g; exact this
    have gs2 : ∀ {i : Nat} {m : Int}, granted w i m → granted (({ w with gap := upd w.gap k (w.gapT k), edge := upd w.edge k (min (w.edge k) (w.gapT k)) } : Wd).setN k (w.nd k).tk) i m := fun g => by refine granted_setN.2 ?_; exact g
    have low : ∀ i, i < p → ∀ m, live T ta e (({ w with gap := upd w.gap k (w.gapT k), edge := upd w.edge k (min (w.edge k) (w.gapT k)) } : Wd).setN k (w.nd k).tk) i m → live T ta e w i m := by
      rintro i hi m ⟨g', l1, l2⟩
      have g2 : granted w i m := gs g'
      rw [nd i (by omega)] at l1 l2
      refine ⟨g2, ?_, ?_⟩
      · split at l1
        · rename_i q; subst q; omega
        · exact l1
      · split at l2
        · rename_i q
          subst q
          rcases l2 with l2 | ⟨l2, l3⟩
          · exact .inl l2
          · refine .inr ⟨?_, l3⟩
            have : (w.nd i).tk.en = (w.nd i).en := rfl
            omega
        · exact l2
    refine ⟨?_, ?_, ?_, ?_, ?_, ?_, ?_, ?_⟩
    · intro i hi m m1 m2
      rw [nd i (by omega)] at m2
      rw [e7, e1]
      show upd w.edge k _ i ≤ _ ∧ tc i m ≤ w.c.now
      rw [upd_at]
      by_cases q : i = k
      · subst q
        rw [if_pos rfl] at m2 ⊢
        have := h.tce i hi m m1 m2
        omega
      · rw [if_neg q] at m2 ⊢
        exact h.tce i hi m m1 m2
    · intro i hi j hj
      rw [nd i (by omega)] at hj ⊢
      by_cases q : i = k
      · subst q
        rw [if_pos rfl] at hj ⊢
        exact h.av i hi j hj
      · rw [if_neg q] at hj ⊢
        exact h.av i hi j hj
    · intro i hi hlt
      rw [nd i (by omega)] at hlt ⊢
      by_cases q : i = k
      · subst q
        rw [if_pos rfl] at hlt ⊢
        have := h.ende i hi (by have : (w.nd i).tk.en = (w.nd i).en := rfl; omega)
        exact ⟨gs2 this.1, this.2⟩
      · rw [if_neg q] at hlt ⊢
        have := h.ende i hi hlt
        exact ⟨gs2 this.1, this.2⟩
    · intro j hj hs i hi hn
      rw [e2] at hj
      rw [e3] at hs
      rw [e4] at hn
      rw [e5, nd i (by omega)]
      obtain ⟨r1, r2⟩ := h.ret j hj hs i hi hn
      by_cases q : i = k
      · subst q
        rw [if_pos rfl]
        exact ⟨r1, fun hlt => r2 (by have : (w.nd i).tk.en = (w.nd i).en := rfl; omega)⟩
      · rw [if_neg q]
        exact ⟨r1, r2⟩
    · intro i hi m g'
      rw [e1]
      exact h.gra i hi m (gs g')
    · intro i hi m l
      rw [e1]
      exact h.lock i hi m (low i hi m l)
    · intro i hi hc m g'
      rw [e1] at hc ⊢
      exact h.own i hi hc m (gs g')
    · intro hc i hi m g'
      rw [e1] at hc ⊢
      exact h.lost hc i hi m (gs g')

/-- **Never two.** -/
theorem one_holder {p : Nat} {T S W t : Int} {tc ta : Nat → Int → Int} {e : Nat → Int} {hh : Nat} {w : Wd} (_b : Base p T S W t w) (h : Safe p T S tc ta e hh w) :
    (∀ k, k < p → (w.nd k).holds = true → w.c.holds = false) ∧ (∀ k i, k < p → i < p → (w.nd k).holds = true → (w.nd i).holds = true → k = i) := by
  have lv : ∀ k, k < p → (w.nd k).holds = true → live T ta e w k (e k) := by
    intro k hk hh'
    have hlt : (w.nd k).now < (w.nd k).en := by simpa [Nod.holds] using hh'
    obtain ⟨g, e1⟩ := h.ende k hk hlt
    exact ⟨g, by omega, .inr ⟨hlt, rfl⟩⟩
  constructor
  · intro k hk hh'
    unfold Cen.holds
    rcases h.lock k hk _ (lv k hk hh') with q | ⟨q, _⟩ <;> rw [q] <;> simp
    omega
  · intro k i hk hi h1 h2
    rcases h.lock k hk _ (lv k hk h1) with q | ⟨q, q'⟩ <;> rcases h.lock i hi _ (lv i hi h2) with r | ⟨r, r'⟩
    · omega
    · omega
    · omega
    · omega

end Go.Proofs.Ytmnpnnegnlhemaa.Eng
namespace Go.Proofs.Ytmnpnnegnlhemaa.Eng
open Go

/-- An event: the world behind it. num: the event's N (a byte). -/
def Wd.step (p : Nat) (w : Wd) (what num : Int) : Wd :=
  let k := (num.tmod p).toNat
  match decide (what = 1) with
  | true => w.askN k
  | false => match decide (what = 2) with
    | true => w.retN k
    | false => match decide (what = 3) with
      | true => w.brkN k
      | false => match decide (what = 4) with
        | true => { w with c := w.c.brk }
        | false => match decide (what = 5) with
          | true => { w with c := w.c.want (num.tmod (p + 1)) }
          | false => match decide (what = 6) with
            | true => match decide (w.sl = 0) with
              | true => w
              | false => match decide (w.sk (num.tmod w.sl).toNat = 2) with
                | true => w.hearN (w.sn (num.tmod w.sl).toNat - 1).toNat (num.tmod w.sl).toNat
                | false => w.hearC (num.tmod w.sl).toNat
            | false => match decide (what = 7) with
              | true => match w.may p with
                | true => w.tickC
                | false => w
              | false => w.tickN k

theorem tmod_lt {a b : Int} (ha : 0 ≤ a) (hb : 0 < b) : 0 ≤ a.tmod b ∧ a.tmod b < b := by
  rw [Int.tmod_eq_emod_of_nonneg ha]
  exact ⟨Int.emod_nonneg _ (by omega), Int.emod_lt_of_pos _ hb⟩

theorem step_base {p : Nat} {T S W t : Int} {w : Wd} (hp : 1 ≤ p ∧ p ≤ 3) (hT : 0 ≤ T ∧ T ≤ 1000000) (hS : 0 ≤ S ∧ S ≤ 1000) (hW : 0 ≤ W ∧ W ≤ 1000000) (hWT : T * (1000 + S) ≤ 1000 * (W - 1)) (ht : t ≤ 1000000) {what num : Int} (hn : 0 ≤ num) (b : Base p T S W t w) :
    Base p T S W (t + 1) (w.step p what num) ∧ ∀ tc ta e hh, Safe p T S tc ta e hh w → ∃ tc' ta' e' h', Safe p T S tc' ta' e' h' (w.step p what num) := by
  have hk : (num.tmod p).toNat < p := by have := tmod_lt hn (show (0 : Int) < p by omega); omega
  have bm := b.mono (t' := t + 1) (by omega)
  unfold Wd.step
  simp only
  cases decide (what = 1) with
  | true => exact ⟨(b.askN hp.2 ht hk).1, fun tc ta e hh h => ⟨_, _, _, _, h.ask hp.2 ht b hk⟩⟩
  | false =>
    cases decide (what = 2) with
    | true => exact ⟨(b.retN hp.2 hT.1 hk).1, fun tc ta e hh h => ⟨_, _, _, _, h.retN hp.2 hT.1 b hk⟩⟩
    | false =>
      cases decide (what = 3) with
      | true => exact ⟨b.brkN hp.2 hT.1 hk, fun tc ta e hh h => ⟨_, _, _, _, h.fall hp.2 hk⟩⟩
      | false =>
        cases decide (what = 4) with
        | true => exact ⟨b.brkC, fun tc ta e hh h => by obtain ⟨h2, q⟩ := brkC_safe b h; exact ⟨_, _, _, _, q⟩⟩
        | false =>
          cases decide (what = 5) with
          | true =>
            have hv := tmod_lt hn (show (0 : Int) < (p : Int) + 1 by omega)
            exact ⟨(want_ok (tc := fun _ _ => 0) (ta := fun _ _ => 0) (e := fun _ => 0) (hh := 0) hp.2 b hv.1 (by omega)).1, fun tc ta e hh h => ⟨_, _, _, _, (want_ok hp.2 b hv.1 (by omega)).2.2.2 h⟩⟩
          | false =>
            cases decide (what = 6) with
            | true =>
              cases hs : decide (w.sl = 0) with
              | true => exact ⟨bm, fun tc ta e hh h => ⟨_, _, _, _, h⟩⟩
              | false =>
                have hs' : w.sl ≠ 0 := by simpa using hs
                have hj : (num.tmod w.sl).toNat < w.sl := by have := tmod_lt hn (show (0 : Int) < w.sl by omega); omega
                obtain ⟨s1, s2, s3, s4⟩ := b.sent _ hj
                cases h2 : decide (w.sk (num.tmod w.sl).toNat = 2) with
                | true =>
                  have h2' : w.sk (num.tmod w.sl).toNat = 2 := by simpa using h2
                  have hkk : (w.sn (num.tmod w.sl).toNat - 1).toNat < p := by omega
                  have hnn : w.sn (num.tmod w.sl).toNat = ((w.sn (num.tmod w.sl).toNat - 1).toNat : Nat) + 1 := by omega
                  obtain ⟨q1, _, _⟩ := hearN_ok (tc := fun _ _ => 0) (ta := fun _ _ => 0) (e := fun _ => 0) (hh := 0) hp.2 hT ht b hkk hj h2' hnn
                  exact ⟨q1.mono (by omega), fun tc ta e hh h => by obtain ⟨e', q⟩ := (hearN_ok hp.2 hT ht b hkk hj h2' hnn).2.2 h; exact ⟨_, _, _, _, q⟩⟩
                | false =>
                  have h2' : w.sk (num.tmod w.sl).toNat ≠ 2 := by simpa using h2
                  exact ⟨(hearC_ok (tc := fun _ _ => 0) (ta := fun _ _ => 0) (e := fun _ => 0) (hh := 0) hp.2 ht b hj h2').1, fun tc ta e hh h => ⟨_, _, _, _, (hearC_ok hp.2 ht b hj h2').2.2 h⟩⟩
            | false =>
              cases decide (what = 7) with
              | true =>
                cases hm : w.may p with
                | true => exact ⟨(tickC_ok (tc := fun _ _ => 0) (ta := fun _ _ => 0) (e := fun _ => 0) (hh := 0) hp.2 ht hT.1 hS hW hWT b hm).1, fun tc ta e hh h => ⟨_, _, _, _, (tickC_ok hp.2 ht hT.1 hS hW hWT b hm).2 h⟩⟩
                | false => exact ⟨bm, fun tc ta e hh h => ⟨_, _, _, _, h⟩⟩
              | false => exact ⟨(tickN_ok (tc := fun _ _ => 0) (ta := fun _ _ => 0) (e := fun _ => 0) (hh := 0) hp.2 ht hS b hk).1, fun tc ta e hh h => ⟨_, _, _, _, (tickN_ok hp.2 ht hS b hk).2 h⟩⟩

/-- How many hold. -/
def Wd.cnt (p : Nat) (w : Wd) : Nat := (if w.c.holds = true then 1 else 0) + ((List.range p).filter fun k => (w.nd k).holds).length
theorem cnt_le {p : Nat} {T S W t : Int} {tc ta : Nat → Int → Int} {e : Nat → Int} {hh : Nat} {w : Wd} (b : Base p T S W t w) (h : Safe p T S tc ta e hh w) : w.cnt p ≤ 1 := by
  obtain ⟨h1, h2⟩ := one_holder b h
  have hl : ((List.range p).filter fun k => (w.nd k).holds).length ≤ 1 := by
    match hm : (List.range p).filter fun k => (w.nd k).holds with
    | [] => simp
    | [_] => simp
    | x :: y :: l =>
      exfalso
      have hx : x ∈ (List.range p).filter fun k => (w.nd k).holds := by rw [hm]; simp
      have hy : y ∈ (List.range p).filter fun k => (w.nd k).holds := by rw [hm]; simp
      rw [List.mem_filter, List.mem_range] at hx hy
      have := h2 x y hx.1 hy.1 hx.2 hy.2
      subst this
      have nd : ((List.range p).filter fun k => (w.nd k).holds).Nodup := List.Pairwise.filter _ List.nodup_range
      rw [hm] at nd
      simp at nd
  unfold Wd.cnt
  by_cases q : w.c.holds = true
  · have : ((List.range p).filter fun k => (w.nd k).holds) = [] := by
      rw [List.filter_eq_nil_iff]
      intro k hk hh'
      rw [List.mem_range] at hk
      have := h1 k hk hh'
      rw [q] at this
      cases this
    rw [this, if_pos q]
    simp
  · rw [if_neg q]; omega

end Go.Proofs.Ytmnpnnegnlhemaa.Eng
namespace Go.Proofs.Ytmnpnnegnlhemaa.Eng
open Go

/-- A world that keeps to the rules. -/
def Fit (p : Nat) (w : Wd) : Prop := ∃ T S W t : Int, (1 ≤ p ∧ p ≤ 3) ∧ (0 ≤ T ∧ T ≤ 1000000) ∧ (0 ≤ S ∧ S ≤ 1000) ∧ (0 ≤ W ∧ W ≤ 1000000) ∧ T * (1000 + S) ≤ 1000 * (W - 1) ∧ t ≤ 1000000 ∧ Base p T S W t w
theorem wrap_byte {n : Int} (h0 : 0 ≤ n) (h1 : n < 256) : IntKind.i64.wrap n = n := w64 (by omega) (by omega)

theorem hget_mid (A : List AB) (a : AB) (X : List AB) : hget (A ++ a :: X) A.length = a := by
  induction A with
  | nil => rfl
  | cons b A ih => simpa only [List.cons_append, List.length_cons, hget] using ih
theorem hset_mid (A : List AB) (a b : AB) (X : List AB) : hset (A ++ a :: X) A.length b = A ++ b :: X := by
  induction A with
  | nil => rfl
  | cons c A ih => simpa only [List.cons_append, List.length_cons, hset, List.cons.injEq, true_and] using ih
theorem subH_first {τ : Nat → Nat} : ∀ (A Pre X : List AB), A.map (renB τ) = A → subH τ (Pre ++ (A ++ X)) (List.range' Pre.length A.length) A
  | [], Pre, X, _ => by simp [subH]
  | a :: A, Pre, X, h => by
    simp only [List.map_cons, List.cons.injEq] at h
    simp only [List.length_cons, List.range'_succ, List.cons_append, subH]
    refine ⟨⟨by simp, by rw [hget_mid, h.1]⟩, ?_⟩
    have := subH_first (τ := τ) A (Pre ++ [a]) X h.2
    simpa using this
theorem updH_first {τ : Nat → Nat} : ∀ (A B Pre X N : List AB), B.length = A.length → updH τ (Pre ++ (A ++ X)) (List.range' Pre.length A.length) (B ++ N) = Pre ++ (B.map (renB τ) ++ X) ++ N.map (renB τ)
  | [], [], Pre, X, N, _ => by simp [updH]
  | a :: A, b :: B, Pre, X, N, h => by
    simp only [List.length_cons, List.range'_succ, List.cons_append, updH, hset_mid]
    have := updH_first (τ := τ) A B (Pre ++ [renB τ b]) X N (by simpa using h)
    simpa using this
  | [], _ :: _, _, _, _, h => by simp at h
  | _ :: _, [], _, _, _, h => by simp at h

/-- The frame rule for a heap whose first blocks are the function's own. -/
theorem Ok.first {P : Program} {E : Addr → Option Value} {f : FuncId} {args : List SV} {A B B' N : List AB} {v : SV} (L : Nat) (h : Ok P E f args A v (B ++ N)) (X : List AB) (hA : A.length = L) (hB : B.length = L)
    (hr : ∀ τ : Nat → Nat, (∀ j, j < L → τ j = j) → (∀ j, τ (L + j) = (A ++ X).length + j) → rens τ args = args ∧ A.map (renB τ) = A ∧ B.map (renB τ) = B')
    (hs : scs L args = true) (hw : hwk A.length A A) : Ok P E f args (A ++ X) (ren (sig (List.range L) (A ++ X).length) v) (B' ++ X ++ N.map (renB (sig (List.range L) (A ++ X).length))) := by
  have t1 : ∀ j, j < L → sig (List.range L) (A ++ X).length j = j := fun j hj => by rw [sig_lt (by simpa using hj)]; simp
  have t2 : ∀ j, sig (List.range L) (A ++ X).length (L + j) = (A ++ X).length + j := fun j => by rw [sig_ge (by simp)]; simp
  obtain ⟨r1, r2, r3⟩ := hr _ t1 t2
  have e : List.range L = List.range' 0 A.length := by rw [hA, List.range_eq_range']
  have := h.frame (A ++ X) (List.range L) (by rw [e] at r2 ⊢; exact subH_first A [] X r2) List.nodup_range (by rw [hA]; exact hs) hw
  rw [r1] at this
  have u := updH_first (τ := sig (List.range L) (A ++ X).length) A B [] X N (by omega)
  rw [r3] at u
  rw [show updH (sig (List.range L) (A ++ X).length) (A ++ X) (List.range L) (B ++ N) = B' ++ X ++ N.map (renB (sig (List.range L) (A ++ X).length)) from by
    conv => lhs; arg 3; rw [e]
    simpa using u] at this
  exact this
theorem lS_ren (τ : Nat → Nat) (u : Wd) : renB τ (lS u) = lS u := by simp only [lS, renB, rens, ren, ri]
theorem lN_ren (τ : Nat → Nat) (x : Nod) : renB τ (lN x) = lN x := by simp only [lN, renB, rens, ren, ri]
theorem tau_at {τ : Nat → Nat} {L n j : Nat} (h : ∀ j, τ (L + j) = n + j) : τ (L + j) = n + j := h j
end Go.Proofs.Ytmnpnnegnlhemaa.Eng
namespace Go.Proofs.Ytmnpnnegnlhemaa.Eng
open Go

theorem w1 : IntKind.i64.wrap 1 = 1 := by decide
theorem w2 : IntKind.i64.wrap 2 = 2 := by decide
theorem w3 : IntKind.i64.wrap 3 = 3 := by decide
def Wd.cntI (w : Wd) : Nat → Int
  | 0 => match w.c.holds with
    | true => 1
    | false => 0
  | k + 1 => match (w.nd k).holds with
    | true => IntKind.i64.wrap (w.cntI k + 1)
    | false => w.cntI k
def pl40 : Nat → Plan
  | 3 => [([], 4), ([], 7), ([2], 7), ([4], 2), ([4], 7), ([7], 2), ([7], 4), ([7, 2], 4), ([7, 4], 2)]
  | _ => []
def pl42 : Nat → Plan
  | _ => []
end Go.Proofs.Ytmnpnnegnlhemaa.Eng
namespace Go.Proofs.Ytmnpnnegnlhemaa.Eng
open Go

/-- A slice of events (rows of two bytes), in memory that is only read. -/
def Evts (E : Addr → Option Value) (aa : Option Addr) (n : Nat) (e0 e1 : Nat → Int) : Prop :=
  (0 < n → ∃ b o, aa = some ⟨b, o, none⟩ ∧ ∀ i, i < n → E ⟨b, o + i * 2, none⟩ = some (.int .u8 (e0 i)) ∧ E ⟨b, o + i * 2 + 1, none⟩ = some (.int .u8 (e1 i))) ∧ ∀ i, i < n → 0 ≤ e1 i ∧ e1 i < 256

def lT (b : Int) : Int := IntKind.i64.wrap (1 + (IntKind.i64.wrap b).tmod 12)
def lS0 (c : Int) : Int := IntKind.i64.wrap (50 * (IntKind.i64.wrap c).tmod 21)
theorem lT_le {b : Int} (h : 0 ≤ b ∧ b < 256) : 1 ≤ lT b ∧ lT b ≤ 12 ∧ lT b = 1 + b.tmod 12 := by
  have h1 := tmod_lt h.1 (show (0 : Int) < 12 by decide)
  unfold lT
  rw [wrap_byte h.1 h.2, w64 (by omega) (by omega)]
  omega
theorem lS0_le {c : Int} (h : 0 ≤ c ∧ c < 256) : 0 ≤ lS0 c ∧ lS0 c ≤ 1000 := by
  have h1 := tmod_lt h.1 (show (0 : Int) < 21 by decide)
  unfold lS0
  rw [wrap_byte h.1 h.2, w64 (by omega) (by omega)]
  omega
theorem rules_of {T S : Int} (hT : 1 ≤ T ∧ T ≤ 12) (hS : 0 ≤ S ∧ S ≤ 1000) : rules T S = true := by
  unfold rules
  simp
  omega
theorem cenOk_of {p T S : Int} (hp : 1 ≤ p ∧ p ≤ 3) (hT : 1 ≤ T ∧ T ≤ 12) (hS : 0 ≤ S ∧ S ≤ 1000) : cenOk p T S = true := by
  unfold cenOk
  rw [rules_of hT hS]
  simp
  omega
theorem nodeOk_of {p T : Int} (hp : 1 ≤ p ∧ p ≤ 3) (hT : 1 ≤ T ∧ T ≤ 12) : nodeOk p T = true := by
  unfold nodeOk
  simp
  omega
theorem wait_of {T S : Int} (hT : 1 ≤ T ∧ T ≤ 12) (hS : 0 ≤ S ∧ S ≤ 1000) : (1 ≤ wait T S ∧ wait T S ≤ 1000000) ∧ T * (1000 + S) ≤ 1000 * (wait T S - 1) := by
  have h0 : 0 ≤ T * (1000 + S) ∧ T * (1000 + S) ≤ 24000 := by
    have := Int.mul_nonneg (show 0 ≤ T by omega) (show 0 ≤ 1000 + S by omega)
    have h2 := Int.mul_le_mul hT.2 (show 1000 + S ≤ 2000 by omega) (by omega) (by decide)
    omega
  unfold wait
  generalize hq : T * (1000 + S) = q at *
  omega

/-- What holds behind t events. -/
structure Run (p : Nat) (T S t : Int) (w : Wd) : Prop where
  base : Base p T S (wait T S) t w
  safe : ∃ tc ta e h, Safe p T S tc ta e h w
  rest : ∀ k, p ≤ k → k < 3 → w.nd k = dN

theorem Run.fit {p : Nat} {T S t : Int} {w : Wd} (hp : 1 ≤ p ∧ p ≤ 3) (hT : 1 ≤ T ∧ T ≤ 12) (hS : 0 ≤ S ∧ S ≤ 1000) (ht : t ≤ 1000000) (h : Run p T S t w) : Fit p w :=
  ⟨T, S, wait T S, t, hp, by omega, hS, by have := wait_of hT hS; omega, (wait_of hT hS).2, ht, h.base⟩

theorem nd_push3 (w : Wd) (a b c : Int) (k : Nat) : (w.push a b c).nd k = w.nd k := nd_push w a b c k
theorem step_nd {p : Nat} {T S W t : Int} {w : Wd} (hp : 1 ≤ p ∧ p ≤ 3) (b : Base p T S W t w) {what num : Int} (hn : 0 ≤ num) {i : Nat} (hi : p ≤ i ∧ i < 3) : (w.step p what num).nd i = w.nd i := by
  have hk : (num.tmod p).toNat < p := by have := tmod_lt hn (show (0 : Int) < p by omega); omega
  have hset : ∀ k x, k < p → (w.setN k x).nd i = w.nd i := fun k x hk => by rw [nd_setN w (by omega) hi.2, if_neg (by omega)]
  unfold Wd.step
  simp only
  cases decide (what = 1) with
  | true => simp only [Wd.askN, nd_push]; exact hset _ _ hk
  | false =>
    cases decide (what = 2) with
    | true =>
      simp only [Wd.retN]
      cases decide ((w.nd (num.tmod p).toNat).ret3 = 0) with
      | true => simp only [nd_push]; exact hset _ _ hk
      | false => exact hset _ _ hk
    | false =>
      cases decide (what = 3) with
      | true => exact hset _ _ hk
      | false =>
        cases decide (what = 4) with
        | true => rfl
        | false =>
          cases decide (what = 5) with
          | true => rfl
          | false =>
            cases decide (what = 6) with
            | true =>
              cases hs : decide (w.sl = 0) with
              | true => rfl
              | false =>
                have hs' : w.sl ≠ 0 := by simpa using hs
                have hj : (num.tmod w.sl).toNat < w.sl := by have := tmod_lt hn (show (0 : Int) < w.sl by omega); omega
                obtain ⟨s1, s2, s3, s4⟩ := b.sent _ hj
                cases decide (w.sk (num.tmod w.sl).toNat = 2) with
                | true => exact hset _ _ (by omega)
                | false =>
                  simp only [Wd.hearC]
                  cases w.c.reply (w.sk (num.tmod w.sl).toNat) (w.sn (num.tmod w.sl).toNat) (w.sm (num.tmod w.sl).toNat) with
                  | true => simp only [nd_push]; rfl
                  | false => rfl
            | false =>
              cases decide (what = 7) with
              | true => cases w.may p <;> rfl
              | false =>
                simp only [Wd.tickN]
                rw [nd_setN _ (by omega) hi.2, if_neg (by omega)]; rfl

theorem Run.step {p : Nat} {T S t : Int} {w : Wd} (hp : 1 ≤ p ∧ p ≤ 3) (hT : 1 ≤ T ∧ T ≤ 12) (hS : 0 ≤ S ∧ S ≤ 1000) (ht : t ≤ 1000000) {what num : Int} (hn : 0 ≤ num) (h : Run p T S t w) : Run p T S (t + 1) (w.step p what num) := by
  have hw := wait_of hT hS
  obtain ⟨h1, h2⟩ := step_base (what := what) (num := num) hp (by omega) hS (by omega) hw.2 ht hn h.base
  obtain ⟨tc, ta, e, hh, hs⟩ := h.safe
  exact ⟨h1, h2 tc ta e hh hs, fun k k1 k3 => by rw [step_nd hp h.base hn ⟨k1, k3⟩]; exact h.rest k k1 k3⟩

theorem run0 {p : Nat} {T S : Int} (hT : 1 ≤ T ∧ T ≤ 12) (_hS : 0 ≤ S ∧ S ≤ 1000) (w : Wd) (hc : w.c = newC p T S) (hn : ∀ k, k < p → w.nd k = newN ((k : Int) + 1) T) (hr : ∀ k, p ≤ k → k < 3 → w.nd k = dN)
    (hl : w.sl = 0) (hg : w.gap = fun _ => 0) (he : w.edge = fun _ => 0) (hs : w.slow = S) : Run p T S 0 w := by
  have g0 : ∀ k m, ¬ granted w k m := fun k m ⟨j, hj, _⟩ => by omega
  refine ⟨⟨by rw [hc]; rfl, by rw [hc]; rfl, by rw [hc]; exact Int.le_refl _, by rw [hc]; exact Int.le_refl _, by rw [hc]; exact Int.le_refl _, by rw [hc]; exact Int.le_refl _, hs, by omega, ?_, ?_, ?_, ?_, ?_⟩, ⟨fun _ _ => 0, fun _ _ => 0, fun _ => 0, 0, ?_, ?_, ?_, ?_, ?_, ?_, ?_, ?_⟩, hr⟩
  · intro k hk
    rw [hn k hk]
    exact ⟨rfl, rfl, Int.le_refl _, Int.le_refl _, Int.le_refl _, Int.le_refl _, by show ((0 : Nat) : Int) ≤ 0; omega, Int.le_refl _, by show (0 : Int) ≤ 0 + T; omega, fun j hj => absurd hj (Nat.not_lt_zero _), fun i j _ hj => absurd hj (Nat.not_lt_zero _)⟩
  · intro k hk
    rw [hn k hk, hg, hc]
    show (0 : Int) = 1000 * 0 - (1000 + S) * 0
    omega
  · intro k hk
    rw [hg, he]
    show (0 : Int) ≤ 0 ∧ -(2000 * 0) ≤ (0 : Int)
    omega
  · intro j hj; omega
  · intro k hk
    rw [hn k hk, hc]
    show (0 : Int) ≤ 0 ∧ (0 : Int) ≤ 0
    omega
  · intro k hk m h1 h2
    rw [hn k hk] at h2
    have : m ≤ 0 := h2
    omega
  · intro k hk j hj
    rw [hn k hk] at hj
    exact absurd hj (Nat.not_lt_zero _)
  · intro k hk h
    rw [hn k hk] at h
    have : (0 : Int) < 0 := h
    omega
  · intro j hj; omega
  · intro k hk m g; exact absurd g (g0 k m)
  · intro k hk m g; exact absurd g.1 (g0 k m)
  · intro k hk h m g; exact absurd g (g0 k m)
  · intro h k hk m g; exact absurd g (g0 k m)

theorem cntI_le {p : Nat} {T S t : Int} {w : Wd} (hp : 1 ≤ p ∧ p ≤ 3) (h : Run p T S t w) : decide (1 < w.cntI p) = false := by
  obtain ⟨tc, ta, e, hh, hs⟩ := h.safe
  have hc := cnt_le h.base hs
  have key : ∀ n, n ≤ 3 → w.cntI n = ((if w.c.holds = true then 1 else 0) + ((List.range n).filter fun k => (w.nd k).holds).length : Nat) := by
    intro n
    induction n with
    | zero => intro _; unfold Wd.cntI; cases w.c.holds <;> rfl
    | succ n ih =>
      intro hn
      have i1 := ih (by omega)
      have hle : ((List.range n).filter fun k => (w.nd k).holds).length ≤ n := by
        have := List.length_filter_le (fun k => (w.nd k).holds) (List.range n)
        simpa using this
      unfold Wd.cntI
      rw [List.range_succ, List.filter_append, List.length_append]
      cases hh : (w.nd n).holds with
      | true =>
        simp only [List.filter_cons, hh, if_true, List.filter_nil, List.length_cons, List.length_nil]
        rw [i1, w64 (by split <;> omega) (by split <;> omega)]
        omega
      | false =>
        simp only [List.filter_cons, hh, Bool.false_eq_true, if_false, List.filter_nil, List.length_nil]
        rw [i1]
        omega
  rw [key p hp.2]
  unfold Wd.cnt at hc
  simp only [decide_eq_false_iff_not]
  omega
end Go.Proofs.Ytmnpnnegnlhemaa.Eng
namespace Go.Proofs.Ytmnpnnegnlhemaa.Eng
open Go

theorem subH_at {τ : Nat → Nat} : ∀ (A A' Pre X : List AB), A.map (renB τ) = A' → subH τ (Pre ++ (A' ++ X)) (List.range' Pre.length A.length) A
  | [], A', Pre, X, h => by simp only [List.map_nil] at h; subst h; simp [subH]
  | a :: A, [], Pre, X, h => by simp at h
  | a :: A, a' :: A', Pre, X, h => by
    simp only [List.map_cons, List.cons.injEq] at h
    simp only [List.length_cons, List.range'_succ, List.cons_append, subH]
    refine ⟨⟨by simp, by rw [hget_mid, h.1]⟩, ?_⟩
    have := subH_at (τ := τ) A A' (Pre ++ [a']) X h.2
    simpa using this
theorem subH_app {τ : Nat → Nat} {H : List AB} : ∀ {σ σ' : List Nat} {A B : List AB}, subH τ H σ A → subH τ H σ' B → subH τ H (σ ++ σ') (A ++ B)
  | [], _, [], _, _, h => by simpa using h
  | i :: σ, _, a :: A, _, h, h' => by
    simp only [subH] at h
    simp only [List.cons_append, subH]
    exact ⟨h.1, subH_app h.2 h'⟩
  | [], _, _ :: _, _, h, _ => by simp [subH] at h
  | _ :: _, _, [], _, h, _ => by simp [subH] at h
theorem hset_same : ∀ {H : List AB} {i : Nat} {b : AB}, hget H i = b → i < H.length → hset H i b = H
  | [], _, _, _, h => by simp at h
  | a :: H, 0, b, h, _ => by simp only [hget] at h; simp only [hset, h]
  | a :: H, i + 1, b, h, hl => by simp only [hget] at h; simp only [hset, hset_same h (by simpa using hl)]
theorem updH_same {τ : Nat → Nat} {H : List AB} : ∀ {σ : List Nat} {A : List AB}, subH τ H σ A → updH τ H σ A = H
  | [], [], _ => by simp [updH]
  | i :: σ, a :: A, h => by
    simp only [subH] at h
    simp only [updH, hset_same h.1.2 h.1.1]
    exact updH_same h.2
  | [], _ :: _, h => by simp [subH] at h
  | _ :: _, [], h => by simp [subH] at h

/-- A function that changes nothing, its blocks at both ends of a heap. -/
theorem Ok.ends {P : Program} {E : Addr → Option Value} {f : FuncId} {args args' : List SV} {B N B' N' : List AB} {v v' : SV} (L : Nat) (h : Ok P E f args (B ++ N) v (B ++ N)) (X : List AB) (hB : B.length = L) (hB' : B'.length = L) (hN : N'.length = N.length)
    (hr : ∀ τ : Nat → Nat, (∀ j, j < L → τ j = j) → (∀ j, j < N.length → τ (L + j) = L + X.length + j) → rens τ args = args' ∧ B.map (renB τ) = B' ∧ N.map (renB τ) = N' ∧ ren τ v = v')
    (hs : scs (B ++ N).length args = true) (hw : hwk (B ++ N).length (B ++ N) (B ++ N)) : Ok P E f args' (B' ++ X ++ N') v' (B' ++ X ++ N') := by
  have hlen : (B' ++ X ++ N').length = L + X.length + N.length := by simp only [List.length_append, hB', hN]
  generalize hσ : List.range L ++ List.range' (L + X.length) N.length = σ
  have t1 : ∀ j, j < L → sig σ (B' ++ X ++ N').length j = j := fun j hj => by
    subst hσ
    rw [sig_lt (by simp; omega), List.getElem_append_left (by simpa using hj)]
    simp
  have t2 : ∀ j, j < N.length → sig σ (B' ++ X ++ N').length (L + j) = L + X.length + j := fun j hj => by
    subst hσ
    rw [sig_lt (by simp; omega), List.getElem_append_right (by simp)]
    simp
  obtain ⟨r1, r2, r3, r4⟩ := hr _ t1 t2
  have s1 : subH (sig σ (B' ++ X ++ N').length) (B' ++ X ++ N') σ (B ++ N) := by
    subst hσ
    refine subH_app ?_ ?_
    · have := subH_at (τ := sig (List.range L ++ List.range' (L + X.length) N.length) (B' ++ X ++ N').length) B B' [] (X ++ N') r2
      rw [show List.range' ([] : List AB).length B.length = List.range L by rw [hB, List.range_eq_range']; rfl] at this
      simpa using this
    · have := subH_at (τ := sig (List.range L ++ List.range' (L + X.length) N.length) (B' ++ X ++ N').length) N N' (B' ++ X) [] r3
      simpa [hB'] using this
  have nd : σ.Nodup := by
    subst hσ
    rw [List.nodup_append]
    refine ⟨List.nodup_range, List.nodup_range', ?_⟩
    intro a ha b hb
    rw [List.mem_range] at ha
    rw [List.mem_range'_1] at hb
    omega
  have := h.frame (B' ++ X ++ N') σ s1 nd hs hw
  rw [r1, r4, updH_same s1] at this
  exact this
end Go.Proofs.Ytmnpnnegnlhemaa.Eng
namespace Go.Proofs.Ytmnpnnegnlhemaa.Eng
open Go
def pl6 : Nat → Plan
  | _ => []
def pl7 : Nat → Plan
  | _ => []
def pl8 : Nat → Plan
  | _ => []
def pl9 : Nat → Plan
  | _ => []
end Go.Proofs.Ytmnpnnegnlhemaa.Eng
namespace Go.Proofs.Ytmnpnnegnlhemaa.Eng
open Go

def vj : Value → Int
  | .int _ n => n
  | _ => 0
theorem u8_wf {n : Int} (h : (Lit.int .u8 n).wf = true) : 0 ≤ n ∧ n < 256 := by
  simp [Lit.wf, IntKind.min, IntKind.max, IntKind.bits, IntKind.signed] at h
  omega

theorem evts_open {W : World} {H : Type} {enc : TypeId × Value → H} {v : Value} {d : DataW H} {p : List MemPlace} (h : DataW.Trod enc Try.prog W 0 (fun _ => true) true 70 v d p) (hv : ∃ a len cap, v = .slice a len cap) :
    ∃ aa n cap e0 e1, v = .slice aa n cap ∧ Evts W.cell? aa n e0 e1 := by
  obtain ⟨aa, n, cap, rfl⟩ := hv
  obtain ⟨m, e⟩ := h
  rcases open_rows (n := 4) (ks := [.u8, .u8]) Try.underlying70 (by kernel_rfl) (of_decide_eq_true (by kernel_rfl)) e with ⟨a, c, e1⟩ | ⟨b, o, len, c, e1, _, _, hx⟩
  · simp [Value.cells] at e1
    obtain ⟨rfl, rfl, rfl⟩ := e1
    exact ⟨_, _, _, fun _ => 0, fun _ => 0, rfl, fun h0 => absurd h0 (Nat.lt_irrefl _), fun i hi => absurd hi (Nat.not_lt_zero _)⟩
  · simp [Value.cells] at e1
    obtain ⟨rfl, rfl, rfl⟩ := e1
    obtain ⟨G, hG⟩ := Deep.choose_lt (α := List Value) hx
    have c2 : Try.prog.cellsOf 80 = 2 := by kernel_rfl
    refine ⟨_, _, _, fun i => vj ((G i).getD 0 .nilFunc), fun i => vj ((G i).getD 1 .nilFunc), rfl, fun _ => ⟨b, o, rfl, fun i hi => ?_⟩, fun i hi => ?_⟩
    · obtain ⟨f, _, hc⟩ := hG i hi
      obtain ⟨x0, l0, e0, _, f⟩ := f.cons
      obtain ⟨x1, l1, rfl, _, f⟩ := f.cons
      obtain rfl := f.nil
      rw [c2] at hc
      rw [e0] at hc
      dsimp only
      rw [e0]
      exact ⟨hc 0 _ rfl, hc 1 _ rfl⟩
    · obtain ⟨f, _, hc⟩ := hG i hi
      obtain ⟨x0, l0, e0, _, f⟩ := f.cons
      obtain ⟨x1, l1, rfl, w1, f⟩ := f.cons
      obtain rfl := f.nil
      dsimp only
      rw [e0]
      exact u8_wf w1

theorem three {a : Int} (h : 0 ≤ a ∧ a < 256) : (IntKind.i64.wrap a).tmod 3 = 0 ∨ (IntKind.i64.wrap a).tmod 3 = 1 ∨ (IntKind.i64.wrap a).tmod 3 = 2 := by
  rw [wrap_byte h.1 h.2]
  have := tmod_lt h.1 (show (0 : Int) < 3 by decide)
  omega
end Go.Proofs.Ytmnpnnegnlhemaa.Eng
