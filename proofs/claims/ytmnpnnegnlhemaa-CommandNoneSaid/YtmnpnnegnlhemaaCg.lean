/- A new centre and a new node, by the engine. -/
import Derived.Test.YtmnpnnegnlhemaaCf
namespace Go.Proofs.Ytmnpnnegnlhemaa.Eng
open Go

theorem liftNew {P : Program} {E : Addr → Option Value} {f : FuncId} {args : List SV} {v : SV} {H1 : List AB} (h : Ok P E f args [] v H1) (ha : ∀ τ : Nat → Nat, rens τ args = args) (hs : scs 0 args = true) (H : List AB) :
    Ok P E f args H (ren (sig [] H.length) v) (updH (sig [] H.length) H [] H1) := by
  have := h.frame H [] (by simp [subH]) (by simp) hs (by simp [hwk])
  rwa [ha] at this

def nodeOk (n t : Int) : Bool := (decide (1 ≤ n) && decide (n ≤ 8)) && (decide (1 ≤ t) && decide (t ≤ 100000))
def newN (n t : Int) : Nod := { now := 0, number := n, term := t, en := 0, last := 0, off := 0, len := 0, an := fun _ => 0, av := fun _ => 0 }

def pl14 : Nat → Plan
  | _ => []
set_option maxRecDepth 100000 in
theorem ok14 (E : Addr → Option Value) (n t : Int) (h : nodeOk n t = true) : Ok Try.prog E 14 [ri n, ri t] [] (.tup [.ptr 0 0, ri 0]) (encN (newN n t)) := by
  have h1 : (decide (1 ≤ n) && decide (n ≤ 8)) = true := by simp [nodeOk] at h ⊢; omega
  have h2 : (decide (1 ≤ t) && decide (t ≤ 100000)) = true := by simp [nodeOk] at h ⊢; omega
  refine ok_of_engR (pl := pl14) mixed (Γ1_sound E) Try.func14 rfl rfl (by kernel_rfl) (by simp) 100 (fun F _ hG => ?_)
  simp only [Try.f14, pl14, Γ1, c44, h1, h2, ri, eng, litSt, srunA_nil, srunA_b, stepR, contB_mk, r0, r1, r2, regC, sop, unw, strip, sev, tg, tset, tput, undefs, needs, opNeeds, gb, gslot, gdst, onth, wants, sPick, selC, sBox, sFill, sBuild, sCall, sUn, vcells, one, whole, splice, holeAt, idxAt, pushAt, nth, List.length_cons, List.length_nil, List.cons_append, List.nil_append, List.map_cons, List.map_nil, List.take_succ_cons, List.take_zero, List.drop_succ_cons, List.drop_zero, List.all_cons, List.all_nil, true_and, and_self, implies_true, eq_self, Bool.false_eq_true, Bool.not_true, Bool.not_false, Bool.and_self, Bool.cond_false, Nat.zero_add, Value.oneCell', ↓reduceIte, Nat.reduceAdd, Nat.reduceSub, Nat.reduceLeDiff, tz96, tpl96]
  exact hG [0, 1] _ _ _ ⟨trivial, rfl, by simp only [Try.f14, encN, newN, ri, rb, renR, renJ, renJs, mvH, hgetO, memB, posG, jp, renJB, retP, sResults, sRes1, resK, retV, vwk, vwks, vwk1, hwk, bwk, sc, scs, tg, List.length_cons, List.length_nil, and_self, eq_self, Bool.and_self, decide_true, decide_false, Nat.zero_add, Nat.add_zero, reduceCtorEq, Nat.reduceAdd, Nat.reduceLT, Nat.reduceLeDiff]⟩

set_option maxRecDepth 100000 in
theorem ok14n (E : Addr → Option Value) (n t : Int) (h : nodeOk n t = false) : Ok Try.prog E 14 [ri n, ri t] [] (.tup [.raw (.pointer none), ri 4]) [] := by
  refine ok_of_eng (pl := pl14) mixed (Γ1_sound E) Try.func14 rfl rfl (by kernel_rfl) (by simp) 100 (fun F hF => ?_)
  cases h1 : (decide (1 ≤ n) && decide (n ≤ 8)) with
  | true =>
    have h2 : (decide (1 ≤ t) && decide (t ≤ 100000)) = false := by rw [nodeOk, h1] at h; simpa using h
    simp only [Try.f14, pl14, Γ1, c44, h1, h2, ri, eng, litSt, srunA_nil, srunA_b, stepR, contB_mk, r0, r1, r2, regC, sop, unw, strip, sev, tg, tset, tput, undefs, needs, opNeeds, gb, gslot, gdst, onth, wants, sPick, selC, sCall, sUn, List.length_cons, List.length_nil, List.cons_append, List.nil_append, List.map_cons, List.map_nil, true_and, and_self, implies_true, eq_self, Bool.false_eq_true, Bool.not_true, Bool.not_false, Bool.cond_false, Nat.zero_add, ↓reduceIte, Nat.reduceAdd, Nat.reduceSub]
    exact hF _ _ _ ⟨trivial, by simp only [Try.f14, ri, retP, sResults, sRes1, resK, retV, vwk, vwks, vwk1, hwk, sc, scs, tg, List.length_nil, and_self, eq_self, Bool.and_self, Nat.le_refl]⟩
  | false =>
    simp only [Try.f14, pl14, Γ1, c44, h1, ri, eng, litSt, srunA_nil, srunA_b, stepR, contB_mk, r0, r1, r2, regC, sop, unw, strip, sev, tg, tset, tput, undefs, needs, opNeeds, gb, gslot, gdst, onth, wants, sPick, selC, sCall, sUn, List.length_cons, List.length_nil, List.cons_append, List.nil_append, List.map_cons, List.map_nil, true_and, and_self, implies_true, imp_self, eq_self, Bool.true_eq_false, Bool.false_eq_true, Bool.not_true, Bool.not_false, Bool.cond_true, Nat.zero_add, ↓reduceIte, Nat.reduceAdd, Nat.reduceSub]
    exact hF _ _ _ ⟨trivial, by simp only [Try.f14, ri, retP, sResults, sRes1, resK, retV, vwk, vwks, vwk1, hwk, sc, scs, tg, List.length_nil, and_self, eq_self, Bool.and_self, Nat.le_refl]⟩

def c14 : List SV → List AB → Res
  | [.raw (.int .i64 n), .raw (.int .i64 t)], H => match nodeOk n t with
    | true => ⟨True, ren (sig [] H.length) (.tup [.ptr 0 0, ri 0]), updH (sig [] H.length) H [] (encN (newN n t))⟩
    | false => ⟨True, .tup [.raw (.pointer none), ri 4], H⟩
  | _, _ => no

theorem c14_sound {E : Addr → Option Value} {args : List SV} {H : List AB} (h : (c14 args H).pre) : Ok Try.prog E 14 args H (c14 args H).val (c14 args H).heap := by
  unfold c14 at h ⊢
  split at h
  · rename_i H0 n t
    cases hn : nodeOk n t with
    | true => exact liftNew (ok14 E n t hn) (fun _ => rfl) rfl _
    | false => exact lift0 (ok14n E n t hn) (fun _ => rfl) rfl (fun _ => rfl) _
  · exact h.elim

end Go.Proofs.Ytmnpnnegnlhemaa.Eng
