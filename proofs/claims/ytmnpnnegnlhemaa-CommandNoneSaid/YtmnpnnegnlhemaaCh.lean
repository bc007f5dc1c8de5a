/- A new centre, by the engine. -/
import Derived.Test.YtmnpnnegnlhemaaCg
namespace Go.Proofs.Ytmnpnnegnlhemaa.Eng
open Go

/-! the centre -/
def cenOk (n t s : Int) : Bool := rules t s && (decide (1 ≤ n) && decide (n ≤ 8))
def newC (n t s : Int) : Cen := { now := 0, node := 0, number := 0, since := 0, wait := wait t s, wanted := 0, n := n.toNat + 1, gr := fun _ => 0 }

def c11r : List SV → List AB → Res
  | [.raw (.int .i64 t), .raw (.int .i64 s)], H => match rules t s with
    | true => ⟨True, .tup [.raw (.int .i64 (wait t s)), .raw (.int .i64 0)], H⟩
    | false => ⟨True, .tup [.raw (.int .i64 0), .raw (.int .i64 4)], H⟩
  | _, _ => no

theorem c11r_sound {E : Addr → Option Value} {args : List SV} {H : List AB} (h : (c11r args H).pre) : Ok Try.prog E 11 args H (c11r args H).val (c11r args H).heap := by
  unfold c11r at h ⊢
  split at h
  · rename_i H0 t s
    have := lift0 (ok11 E t s) (fun _ => rfl) rfl (fun _ => rfl) H
    cases hr : rules t s with
    | true => simpa only [hr, if_true, ri] using this
    | false => simpa only [hr, Bool.false_eq_true, if_false, ri] using this
  · exact h.elim

def Γ13 : Con := fun f args H => match f with
  | .func 11 => c11r args H
  | .func 44 => c44 args H
  | _ => no
theorem Γ13_sound (E : Addr → Option Value) : Con.Sound Try.prog E Γ13 := by
  intro f args H h
  unfold Γ13 at h ⊢
  split at h
  · exact c11r_sound h
  · exact c44_sound h
  · exact h.elim

def pl13 : Nat → Plan
  | _ => []
set_option maxRecDepth 100000 in
theorem ok13 (E : Addr → Option Value) (n t s : Int) (h : cenOk n t s = true) : Ok Try.prog E 13 [ri n, ri t, ri s] [] (.tup [.ptr 0 0, ri 0]) (encC (newC n t s)) := by
  have h1 : (decide (1 ≤ n) && decide (n ≤ 8)) = true := by simp [cenOk] at h ⊢; omega
  have h2 : rules t s = true := by simp [cenOk] at h; exact h.1
  have hb : 1 ≤ n ∧ n ≤ 8 := by simpa using h1
  have hw : IntKind.i64.wrap (n + 1) = n + 1 := w64 (by omega) (by omega)
  have e1 : (n + 1).toNat = n.toNat + 1 := by omega
  refine ok_of_engR (pl := pl13) mixed (Γ13_sound E) Try.func13 rfl rfl (by kernel_rfl) (by simp) 100 (fun F _ hG => ?_)
  simp only [Try.f13, pl13, Γ13, c11r, c44, h1, h2, hw, e1, ri, eng, litSt, srunA, stepR, contA, r0, r1, r2, regC, sop, unw, strip, sev, tg, tset, tput, undefs, needs, opNeeds, sBin, ibin, shiftOp, gb, gslot, gdst, onth, wants, sPick, selC, sStore, sNil, sExtract, sField, sBox, sFill, sBuild, sMake, sMap, sInsert, sCall, sUn, hget, hset, vcells, one, whole, splice, holeAt, idxAt, pushAt, nth, hasKey, List.length_cons, List.length_nil, List.cons_append, List.nil_append, List.append_nil, List.map_cons, List.map_nil, List.take_succ_cons, List.take_zero, List.drop_succ_cons, List.drop_zero, List.drop_nil, List.all_cons, List.all_nil, List.getElem?_cons_zero, List.getElem?_cons_succ, true_and, and_true, and_self, or_true, implies_true, not_false_eq_true, eq_self, ne_eq, Bool.false_eq_true, Bool.not_true, Bool.not_false, Bool.or_false, Bool.and_self, Bool.cond_false, decide_true, decide_false, Nat.zero_add, Nat.le_refl, reduceCtorEq, Value.oneCell', ↓reduceIte, Nat.reduceAdd, Nat.reduceSub, Nat.reduceLeDiff, Int.reduceEq, ts3, tb3, tz3, ti3, te73, tk88, ts88, tm88, tz90, tf90_6, tpl90]
  refine ⟨⟨by omega, by omega, by omega⟩, hG [1, 0, 2] _ _ _ ⟨trivial, rfl, by simp only [Try.f13, encC, newC, ri, rb, renR, renJ, renJs, mvH, hgetO, memB, posG, jp, renJB, renJEnts, retP, sResults, sRes1, resK, retV, vwk, vwks, vwk1, hwk, bwk, sc, scs, scEnts, tg, List.length_cons, List.length_nil, and_self, implies_true, eq_self, Bool.and_self, decide_true, decide_false, Nat.zero_add, Nat.le_refl, reduceCtorEq, Nat.reduceAdd, Nat.reduceLT, Nat.reduceLeDiff, Nat.reduceEqDiff]⟩⟩

set_option maxRecDepth 100000 in
theorem ok13n (E : Addr → Option Value) (n t s : Int) (h : cenOk n t s = false) : Ok Try.prog E 13 [ri n, ri t, ri s] [] (.tup [.raw (.pointer none), ri 4]) [] := by
  refine ok_of_eng (pl := pl13) mixed (Γ13_sound E) Try.func13 rfl rfl (by kernel_rfl) (by simp) 100 (fun F hF => ?_)
  cases h2 : rules t s with
  | true =>
    have h1 : (decide (1 ≤ n) && decide (n ≤ 8)) = false := by rw [cenOk, h2] at h; simpa using h
    simp only [Try.f13, pl13, Γ13, c11r, c44, h1, h2, ri, eng, litSt, srunA, stepR, contA, r0, r1, r2, regC, sop, unw, strip, sev, tg, tset, tput, undefs, needs, opNeeds, sBin, ibin, shiftOp, gb, gslot, gdst, onth, wants, sPick, selC, sExtract, sCall, sUn, List.length_cons, List.length_nil, List.cons_append, List.nil_append, List.map_cons, List.map_nil, List.getElem?_cons_zero, List.getElem?_cons_succ, true_and, and_self, or_true, implies_true, eq_self, Bool.false_eq_true, Bool.not_true, Bool.not_false, Bool.cond_false, decide_true, Nat.zero_add, ↓reduceIte, Nat.reduceAdd, Nat.reduceSub]
    exact hF _ _ _ ⟨trivial, by simp only [Try.f13, ri, retP, sResults, sRes1, resK, retV, vwk, vwks, vwk1, hwk, sc, scs, tg, List.length_nil, and_self, eq_self, Bool.and_self, Nat.le_refl]⟩
  | false =>
    simp only [Try.f13, pl13, Γ13, c11r, c44, h2, ri, eng, litSt, srunA, stepR, contA, r0, r1, r2, regC, sop, unw, strip, sev, tg, tset, tput, undefs, needs, opNeeds, sBin, ibin, shiftOp, gb, gslot, gdst, onth, wants, sPick, selC, sExtract, sCall, sUn, List.length_cons, List.length_nil, List.cons_append, List.nil_append, List.map_cons, List.map_nil, List.getElem?_cons_zero, List.getElem?_cons_succ, true_and, and_self, or_true, implies_true, imp_self, eq_self, Bool.true_eq_false, Bool.false_eq_true, Bool.not_true, Bool.not_false, Bool.cond_true, decide_false, Nat.zero_add, ↓reduceIte, Nat.reduceAdd, Nat.reduceSub, Int.reduceEq]
    exact hF _ _ _ ⟨trivial, by simp only [Try.f13, ri, retP, sResults, sRes1, resK, retV, vwk, vwks, vwk1, hwk, sc, scs, tg, List.length_nil, and_self, eq_self, Bool.and_self, Nat.le_refl]⟩

def c13 : List SV → List AB → Res
  | [.raw (.int .i64 n), .raw (.int .i64 t), .raw (.int .i64 s)], H => match cenOk n t s with
    | true => ⟨True, ren (sig [] H.length) (.tup [.ptr 0 0, ri 0]), updH (sig [] H.length) H [] (encC (newC n t s))⟩
    | false => ⟨True, .tup [.raw (.pointer none), ri 4], H⟩
  | _, _ => no

theorem c13_sound {E : Addr → Option Value} {args : List SV} {H : List AB} (h : (c13 args H).pre) : Ok Try.prog E 13 args H (c13 args H).val (c13 args H).heap := by
  unfold c13 at h ⊢
  split at h
  · rename_i H0 n t s
    cases hn : cenOk n t s with
    | true => exact liftNew (ok13 E n t s hn) (fun _ => rfl) rfl _
    | false => exact lift0 (ok13n E n t s hn) (fun _ => rfl) rfl (fun _ => rfl) _
  · exact h.elim

end Go.Proofs.Ytmnpnnegnlhemaa.Eng
