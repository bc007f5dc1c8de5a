/- The law on the rules, by the engine. -/
import Derived.Test.YtmnpnnegnlhemaaCn
namespace Go.Proofs.Ytmnpnnegnlhemaa.Eng
open Go

/-- What the laws call. -/
def ΓL : Con := fun f args H => match f with
  | .func 16 => c16 args H
  | f => cM f args H
theorem ΓL_sound (E : Addr → Option Value) : Con.Sound Try.prog E ΓL := by
  intro f args H h
  unfold ΓL at h ⊢
  split at h
  · exact c16_sound h
  · exact cM_sound E f args H h

theorem cen_words (n t s : Int) : ((rules t s && decide (1 ≤ n)) && decide (n ≤ 8)) = cenOk n t s := by
  unfold cenOk
  cases rules t s <;> simp
theorem nod_words (n t : Int) : ((rules t 0 && decide (1 ≤ n)) && decide (n ≤ 8)) = nodeOk n t := by
  unfold nodeOk rules
  rw [Bool.eq_iff_iff]
  simp
  omega

def pl3 : Nat → Plan
  | _ => []
set_option maxHeartbeats 1000000 in
set_option maxRecDepth 100000 in
theorem ok3 (E : Addr → Option Value) (n t s k : Int) : Ok Try.prog E 3 [.agg [ri n, ri t, ri s], ri k] [] (rb true) [] := by
  refine ok_of_eng (pl := pl3) mixed (ΓL_sound E) Try.func3 rfl rfl (by kernel_rfl) (by simp) 200 (fun F hF => ?_)
  have hX := cen_words n t s
  have hY := nod_words k t
  cases h1 : cenOk n t s <;> cases h2 : nodeOk k t <;> rw [h1] at hX <;> rw [h2] at hY <;>
    simp only [Try.f3, pl3, ΓL, c16, cM, c12, c13, c14, c15, h1, h2, hX, hY, encC, encN, newC, newN, ri, rb, renB, rens, ren, renEnts, sig, updH, eng, litSt, srunA_nil, srunA_b, stepR, contB_mk, r0, r1, r2, regC, sop, unw, strip, sev, tg, tset, tput, undefs, needs, opNeeds, sBin, ibin, shiftOp, gb, gslot, gdst, onth, wants, sPick, sLoad, sExtract, sField, sBox, sCall, cellsAt, hget, hd1, vcells, one, holeAt, idxAt, pushAt, List.length_cons, List.length_nil, List.cons_append, List.nil_append, List.map_cons, List.map_nil, List.take_succ_cons, List.take_zero, List.take_nil, List.drop_succ_cons, List.drop_zero, List.all_cons, List.all_nil, List.getElem?_cons_zero, List.getElem?_cons_succ, List.getElem?_nil, true_and, and_self, or_true, implies_true, forall_const, imp_self, ite_self, not_false_eq_true, eq_self, ne_eq, Bool.true_eq_false, Bool.false_eq_true, Bool.not_true, Bool.not_false, Bool.and_true, Bool.and_false, Bool.and_self, Bool.cond_true, Bool.cond_false, Bool.cond_false_right, decide_true, decide_false, Nat.zero_add, Nat.add_zero, Nat.sub_zero, Nat.le_refl, Option.getD_none, reduceCtorEq, Value.oneCell', ↓reduceIte, Nat.reduceAdd, Nat.reduceSub, Nat.reduceLeDiff, Int.reduceEq, tk3, ta3, tu4, tf23_0, tf23_1, tf23_2, tp27, tp30] <;>
    exact hF _ _ _ ⟨trivial, by simp only [Try.f3, beq_self_eq_true, rb, retP, sResults, sRes1, resK, retV, vwk, vwk1, hwk, sc, tg, List.length_nil, and_self, eq_self, Bool.and_self, Nat.le_refl, ↓reduceIte]⟩

end Go.Proofs.Ytmnpnnegnlhemaa.Eng
