/- A node hears: the asks are taken, by the engine. -/
import Derived.Test.YtmnpnnegnlhemaaCe
namespace Go.Proofs.Ytmnpnnegnlhemaa.Eng
open Go

def Nod.hit (x : Nod) (m : Int) : Bool := decide (x.at m < x.len)
def Nod.takes (x : Nod) (m : Int) : Nod := match x.hit m with
  | true => { x with off := x.off + (x.at m + 1), len := x.len - (x.at m + 1) }
  | false => x

set_option maxRecDepth 100000 in
theorem ok51 (E : Addr → Option Value) (x : Nod) (m : Int) (hx : x.room) : Ok Try.prog E 51 [.ptr 0 6, ri m] (encN x) (.tup [ri (if x.hit m = true then x.av (x.off + x.at m) else 0), rb (x.hit m)]) (encN (x.takes m)) := by
  refine ok_of_eng (pl := pl51) mixed (ΓA_sound E) Try.func51 rfl rfl (by kernel_rfl) (by simp [encN]) 100 (fun F hF => ?_)
  simp only [Try.f51, pl51, ΓA, onNat, allN, sigN, ren, rens, decN, decN2, lix, lof, lln, el0, el1, ivn, cellOf, lstF, nodupB, encN, ri, rb, renB, rens, ren, sig, subH, updH, eng, litSt, srunA_nil, srunA_b, stepR, contB_mk, r0, regC, sop, unw, strip, sev, tg, tset, tput, undefs, needs, opNeeds, sLoad, sStore, sNew, sAlloc, sBox, sCall, cellsAt, hget, hset, hd1, vcells, one, splice, holeAt, idxAt, pushAt, List.length_cons, List.length_nil, List.cons_append, List.nil_append, List.append_nil, List.map_cons, List.map_nil, List.take_succ_cons, List.take_zero, List.take_nil, List.drop_succ_cons, List.drop_zero, List.drop_nil, List.all_cons, List.all_nil, List.contains_cons, List.contains_nil, List.getElem?_cons_zero, List.getElem?_cons_succ, List.getElem?_nil, true_and, and_self, eq_self, Bool.not_false, Bool.or_false, Bool.and_self, Nat.zero_add, Nat.add_zero, Nat.le_refl, Option.getD_some, Option.getD_none, Value.oneCell', Nat.reduceAdd, Nat.reduceSub, Nat.reduceLT, Nat.reduceBEq, tk3, ts3, tz3, tz4, tk108, ta108]
  unfold rangeP
  refine ⟨by simp only [sev, tg, needs, and_self], fun l d fid r hr => ?_⟩
  have hok := ok59 E x m l r hx (by rw [hr]) (by rw [hr]) (by rw [hr]) (by rw [hr]; rfl) (by rw [hr]; rfl)
  have hst : r.state = .ready := by rw [hr]
  have hpe : r.pending = none := by rw [hr]
  clear hr
  cases hh : x.hit m with
  | true =>
    have hh' : decide (x.at m < x.len) = true := hh
    have hlt : x.at m < x.len := by simpa using hh'
    have e1 : x.off + (x.at m + 1) + (x.len - (x.at m + 1)) = x.off + x.len := by omega
    simp only [hh'] at hok
    refine ⟨.tup [], _, t51 m, rto r .done (some .ret), hok, by simp only [g51, hget, List.length_cons, List.length_nil, eq_self, Nat.zero_add, Nat.reduceAdd], by simp [rto], ?_⟩
    simp only [g51, t51, ri, rb, jumpP, popF, rto_pending, eng, undefs, popF, hset, List.length_cons, List.length_nil, List.cons_append, List.nil_append, Nat.zero_add, Nat.reduceAdd]
    exact hF _ _ _ ⟨trivial, by simp only [Try.f51, encN, Nod.takes, hh, e1, ri, rb, retP, sResults, sRes1, resK, retV, vwk, vwks, vwk1, hwk, bwk, sc, scs, tg, sLoad, cellsAt, hget, hd1, List.length_cons, List.length_nil, List.take_succ_cons, List.take_nil, List.drop_zero, and_self, implies_true, eq_self, Bool.and_self, decide_true, Nat.zero_add, Nat.le_refl, ↓reduceIte, Nat.reduceAdd, Nat.reduceLT, tk3, ta3, tk4, ta4]⟩
  | false =>
    have hh' : decide (x.at m < x.len) = false := hh
    simp only [hh'] at hok
    refine ⟨.tup [], _, t51 m, r, hok, by simp only [h51, hget, List.length_cons, List.length_nil, eq_self, Nat.zero_add, Nat.reduceAdd], by rw [hst]; simp, ?_⟩
    simp only [h51, t51, ri, rb, jumpP, popF, hpe, pl51, eng, litSt, srunA_nil, srunA_b, stepR, contB_mk, r0, regC, sop, unw, strip, sev, tg, tset, tput, undefs, needs, opNeeds, popF, sLoad, sStore, cellsAt, hget, hset, hd1, vcells, one, splice, List.length_cons, List.length_nil, List.cons_append, List.nil_append, List.append_nil, List.take_succ_cons, List.take_zero, List.take_nil, List.drop_succ_cons, List.drop_zero, List.drop_nil, List.all_cons, List.all_nil, true_and, and_self, eq_self, Bool.and_self, Nat.zero_add, Nat.le_refl, Value.oneCell', Nat.reduceAdd, tk3, ts3, ta3, tk4, ts4]
    exact hF _ _ _ ⟨trivial, by simp only [Try.f51, encN, Nod.takes, hh, ri, rb, retP, sResults, sRes1, resK, retV, vwk, vwks, vwk1, hwk, bwk, sc, scs, tg, sLoad, cellsAt, hget, hd1, List.length_cons, List.length_nil, List.take_succ_cons, List.take_nil, List.drop_zero, and_self, implies_true, eq_self, Bool.false_eq_true, Bool.and_self, decide_true, Nat.zero_add, Nat.le_refl, ↓reduceIte, Nat.reduceAdd, Nat.reduceLT, tk3, ta3, tk4, ta4]⟩

def ΓK : Con := fun f args H => match f with
  | .func 50 => c50 args H
  | .func 51 => match args with
    | [.ptr i 6, .raw (.int .i64 m)] => onNat 6 (fun x => (.tup [.raw (.int .i64 (if x.hit m = true then x.av (x.off + x.at m) else 0)), .raw (.bool (x.hit m))], encN (x.takes m))) Nod.room H i
    | _ => no
  | f => ΓN f args H
theorem ΓK_sound (E : Addr → Option Value) : Con.Sound Try.prog E ΓK := by
  intro f args H h
  unfold ΓK at h ⊢
  split at h
  · exact c50_sound h
  · split at h
    · rename_i i m
      exact onNat_sound (args := [ri m]) (fun x hx => ok51 E x m hx) (fun _ => rfl) rfl h
    · exact h.elim
  · exact ΓN_sound E f args H h

def pl19 : Nat → Plan
  | _ => []
def Nod.mine (x : Nod) (k n m : Int) : Bool := valid k n m && decide (n = x.number)
def Nod.gets (x : Nod) (k n m : Int) : Bool := x.mine k n m && decide (k = 2) && x.hit m
def Nod.hear (x : Nod) (k n m : Int) : Nod := match x.gets k n m with
  | true => { x.takes m with en := max x.en (IntKind.i64.wrap (x.av (x.off + x.at m) + x.term)) }
  | false => x
set_option maxRecDepth 100000 in
theorem ok19 (E : Addr → Option Value) (x : Nod) (k n m : Int) (hx : x.room) : Ok Try.prog E 19 [.ptr 0 0, word k n m] (encN x) (ri (if x.mine k n m = true then 0 else 2)) (encN (x.hear k n m)) := by
  have hx' : x.len ≤ 1000000 := hx
  refine ok_of_eng (pl := pl19) mixed (ΓK_sound E) Try.func19 rfl rfl (by kernel_rfl) (by simp [encN]) 100 (fun F hF => ?_)
  cases hv : valid k n m with
  | false =>
    simp only [Try.f19, pl19, ΓK, ΓN, c50, word, onNat, allN, sigN, ren, rens, decN, decN2, lix, lof, lln, el0, el1, ivn, cellOf, lstF, nodupB, encN, ri, rb, hv, renB, rens, ren, sig, subH, updH, eng, litSt, srunA_nil, srunA_b, stepR, contB_mk, r0, r1, r2, regC, sop, unw, strip, sev, tg, tset, tput, undefs, needs, opNeeds, sBin, ibin, shiftOp, gb, gslot, gdst, onth, wants, sPick, selC, sLoad, sNil, sField, sBox, sCall, sUn, cellsAt, hget, hset, hd1, vcells, one, holeAt, idxAt, pushAt, drawSt, preL, chkL, stp, nxtB_mk, pref_0, pref_b, allocOp, holes, List.length_cons, List.length_nil, List.cons_append, List.nil_append, List.append_nil, List.map_cons, List.map_nil, List.take_succ_cons, List.take_zero, List.take_nil, List.drop_succ_cons, List.drop_zero, List.all_cons, List.all_nil, List.contains_cons, List.contains_nil, List.getElem?_cons_zero, List.getElem?_cons_succ, true_and, and_self, or_true, implies_true, imp_self, not_false_eq_true, eq_self, ne_eq, Bool.true_eq_false, Bool.false_eq_true, Bool.not_true, Bool.not_false, Bool.or_false, Bool.and_self, Bool.cond_true, Nat.zero_add, Nat.add_zero, Nat.le_refl, Option.getD_some, reduceCtorEq, Value.oneCell', ↓reduceIte, Nat.reduceAdd, Nat.reduceSub, Nat.reduceLT, Nat.reduceLeDiff, Nat.reduceBEq, tk3, ta3, tk41, ts41, ta41, tf41_1, tf96_2]
    exact hF _ _ _ ⟨trivial, by simp only [Try.f19, encN, Nod.mine, Nod.gets, Nod.hear, ri, rb, hv, retP, sResults, sRes1, resK, retV, vwk, vwks, vwk1, hwk, bwk, sc, scs, tg, List.length_cons, List.length_nil, and_self, implies_true, eq_self, Bool.false_eq_true, Bool.false_and, Bool.and_self, decide_true, Nat.zero_add, Nat.le_refl, ↓reduceIte, Nat.reduceAdd, Nat.reduceLT]⟩
  | true =>
    cases hn : decide (n = x.number) with
    | false =>
      simp only [Try.f19, pl19, ΓK, ΓN, c50, word, onNat, allN, sigN, ren, rens, decN, decN2, lix, lof, lln, el0, el1, ivn, cellOf, lstF, nodupB, encN, ri, rb, hv, hn, renB, rens, ren, sig, subH, updH, eng, litSt, srunA_nil, srunA_b, stepR, contB_mk, r0, r1, r2, regC, sop, unw, strip, sev, tg, tset, tput, undefs, needs, opNeeds, sBin, ibin, shiftOp, gb, gslot, gdst, onth, wants, sPick, selC, sLoad, sNil, sField, sBox, sCall, sUn, cellsAt, hget, hset, hd1, vcells, one, holeAt, idxAt, pushAt, drawSt, preL, chkL, stp, nxtB_mk, pref_0, pref_b, allocOp, holes, List.length_cons, List.length_nil, List.cons_append, List.nil_append, List.append_nil, List.map_cons, List.map_nil, List.take_succ_cons, List.take_zero, List.take_nil, List.drop_succ_cons, List.drop_zero, List.all_cons, List.all_nil, List.contains_cons, List.contains_nil, List.getElem?_cons_zero, List.getElem?_cons_succ, true_and, and_self, or_true, implies_true, not_false_eq_true, eq_self, ne_eq, Bool.false_eq_true, Bool.not_true, Bool.not_false, Bool.or_false, Bool.and_self, Bool.cond_false, Nat.zero_add, Nat.add_zero, Nat.le_refl, Option.getD_some, reduceCtorEq, Value.oneCell', ↓reduceIte, Nat.reduceAdd, Nat.reduceSub, Nat.reduceLT, Nat.reduceLeDiff, Nat.reduceBEq, tk3, ta3, tk41, ts41, ta41, tf41_1, tf96_2]
      exact hF _ _ _ ⟨trivial, by simp only [Try.f19, encN, Nod.mine, Nod.gets, Nod.hear, ri, rb, hv, hn, retP, sResults, sRes1, resK, retV, vwk, vwks, vwk1, hwk, bwk, sc, scs, tg, List.length_cons, List.length_nil, and_self, implies_true, eq_self, Bool.false_eq_true, Bool.false_and, Bool.and_false, Bool.and_self, decide_true, Nat.zero_add, Nat.le_refl, ↓reduceIte, Nat.reduceAdd, Nat.reduceLT]⟩
    | true =>
      cases hk : decide (k = 2) with
      | false =>
        simp only [Try.f19, pl19, ΓK, ΓN, c50, word, onNat, allN, sigN, ren, rens, decN, decN2, lix, lof, lln, el0, el1, ivn, cellOf, lstF, nodupB, encN, ri, rb, hv, hn, hk, renB, rens, ren, sig, subH, updH, eng, litSt, srunA_nil, srunA_b, stepR, contB_mk, r0, r1, r2, regC, sop, unw, strip, sev, tg, tset, tput, undefs, needs, opNeeds, sBin, ibin, shiftOp, gb, gslot, gdst, onth, wants, sPick, selC, sLoad, sNil, sField, sBox, sCall, sUn, cellsAt, hget, hset, hd1, vcells, one, holeAt, idxAt, pushAt, drawSt, preL, chkL, stp, nxtB_mk, pref_0, pref_b, allocOp, holes, List.length_cons, List.length_nil, List.cons_append, List.nil_append, List.append_nil, List.map_cons, List.map_nil, List.take_succ_cons, List.take_zero, List.take_nil, List.drop_succ_cons, List.drop_zero, List.all_cons, List.all_nil, List.contains_cons, List.contains_nil, List.getElem?_cons_zero, List.getElem?_cons_succ, true_and, and_self, or_true, implies_true, not_false_eq_true, eq_self, ne_eq, Bool.false_eq_true, Bool.not_true, Bool.not_false, Bool.or_false, Bool.and_self, Bool.cond_false, Nat.zero_add, Nat.add_zero, Nat.le_refl, Option.getD_some, reduceCtorEq, Value.oneCell', ↓reduceIte, Nat.reduceAdd, Nat.reduceSub, Nat.reduceLT, Nat.reduceLeDiff, Nat.reduceBEq, tk3, ta3, tk41, ts41, ta41, tf41_0, tf41_1, tf96_2]
        exact hF _ _ _ ⟨trivial, by simp only [Try.f19, encN, Nod.mine, Nod.gets, Nod.hear, ri, rb, hv, hn, hk, retP, sResults, sRes1, resK, retV, vwk, vwks, vwk1, hwk, bwk, sc, scs, tg, List.length_cons, List.length_nil, and_self, implies_true, eq_self, Bool.false_and, Bool.and_false, Bool.and_self, decide_true, Nat.zero_add, Nat.le_refl, ↓reduceIte, Nat.reduceAdd, Nat.reduceLT]⟩
      | true =>
        cases hh : x.hit m with
        | false =>
          simp only [Try.f19, pl19, ΓK, ΓN, c50, word, onNat, allN, sigN, ren, rens, decN, decN2, lix, lof, lln, el0, el1, ivn, cellOf, lstF, nodupB, encN, Nod.takes, Nod.room, hx', ri, rb, hv, hn, hk, hh, renB, rens, ren, sig, subH, updH, eng, litSt, srunA_nil, srunA_b, stepR, contB_mk, r0, r1, r2, regC, sop, unw, strip, sev, tg, tset, tput, undefs, needs, opNeeds, sBin, ibin, shiftOp, gb, gslot, gdst, onth, wants, sPick, selC, sLoad, sNil, sExtract, sField, sBox, sCall, sUn, cellsAt, hget, hset, hd1, vcells, one, holeAt, idxAt, pushAt, drawSt, preL, chkL, stp, nxtB_mk, pref_0, pref_b, allocOp, holes, List.length_cons, List.length_nil, List.cons_append, List.nil_append, List.append_nil, List.map_cons, List.map_nil, List.take_succ_cons, List.take_zero, List.take_nil, List.drop_succ_cons, List.drop_zero, List.all_cons, List.all_nil, List.contains_cons, List.contains_nil, List.getElem?_cons_zero, List.getElem?_cons_succ, true_and, and_self, or_true, implies_true, not_false_eq_true, eq_self, ne_eq, Bool.false_eq_true, Bool.not_true, Bool.not_false, Bool.or_false, Bool.and_self, Bool.cond_false, Nat.zero_add, Nat.add_zero, Nat.le_refl, Option.getD_some, reduceCtorEq, Value.oneCell', ↓reduceIte, Nat.reduceAdd, Nat.reduceSub, Nat.reduceLT, Nat.reduceLeDiff, Nat.reduceBEq, tk3, ta3, tk41, ts41, ta41, tf41_0, tf41_1, tf41_2, tf96_2, tf96_6]
          exact hF _ _ _ ⟨trivial, by simp only [Try.f19, encN, Nod.mine, Nod.gets, Nod.hear, ri, rb, hv, hn, hk, hh, retP, sResults, sRes1, resK, retV, vwk, vwks, vwk1, hwk, bwk, sc, scs, tg, List.length_cons, List.length_nil, and_self, implies_true, eq_self, Bool.and_false, Bool.and_self, decide_true, Nat.zero_add, Nat.le_refl, ↓reduceIte, Nat.reduceAdd, Nat.reduceLT]⟩
        | true =>
          have hlt : x.at m < x.len := by simpa [Nod.hit] using hh
          have e1 : x.off + (x.at m + 1) + (x.len - (x.at m + 1)) = x.off + x.len := by omega
          simp only [Try.f19, pl19, ΓK, ΓN, c50, word, onNat, allN, sigN, ren, rens, decN, decN2, lix, lof, lln, el0, el1, ivn, cellOf, lstF, nodupB, encN, Nod.takes, Nod.room, hx', ri, rb, hv, hn, hk, hh, e1, renB, rens, ren, sig, subH, updH, eng, litSt, srunA_nil, srunA_b, stepR, contB_mk, r0, r1, r2, regC, sop, unw, strip, sev, tg, tset, tput, undefs, needs, opNeeds, sBin, ibin, shiftOp, gb, gslot, gdst, onth, wants, sPick, selC, sLoad, sStore, sNil, sExtract, sMax, sField, sBox, sCall, sBuiltin, sUn, cellsAt, hget, hset, hd1, vcells, one, splice, holeAt, idxAt, pushAt, drawSt, preL, chkL, stp, nxtB_mk, pref_0, pref_b, allocOp, holes, List.length_cons, List.length_nil, List.cons_append, List.nil_append, List.append_nil, List.map_cons, List.map_nil, List.take_succ_cons, List.take_zero, List.take_nil, List.drop_succ_cons, List.drop_zero, List.all_cons, List.all_nil, List.contains_cons, List.contains_nil, List.getElem?_cons_zero, List.getElem?_cons_succ, true_and, and_self, or_true, implies_true, not_false_eq_true, eq_self, ne_eq, Bool.false_eq_true, Bool.not_true, Bool.not_false, Bool.or_false, Bool.and_self, Bool.cond_false, Nat.zero_add, Nat.add_zero, Nat.le_refl, Option.getD_some, reduceCtorEq, Value.oneCell', ↓reduceIte, Nat.reduceAdd, Nat.reduceSub, Nat.reduceLT, Nat.reduceLeDiff, Nat.reduceBEq, tk3, ts3, ta3, tk41, ts41, ta41, tf41_0, tf41_1, tf41_2, tf96_2, tf96_3, tf96_4, tf96_6]
          exact hF _ _ _ ⟨trivial, by simp only [Try.f19, encN, Nod.mine, Nod.gets, Nod.hear, Nod.takes, ri, rb, hv, hn, hk, hh, e1, retP, sResults, sRes1, resK, retV, vwk, vwks, vwk1, hwk, bwk, sc, scs, tg, List.length_cons, List.length_nil, and_self, implies_true, eq_self, Bool.and_self, decide_true, Nat.zero_add, Nat.le_refl, ↓reduceIte, Nat.reduceAdd, Nat.reduceLT]⟩

end Go.Proofs.Ytmnpnnegnlhemaa.Eng
