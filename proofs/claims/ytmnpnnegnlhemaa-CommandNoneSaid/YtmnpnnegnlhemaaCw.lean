/- Calls on a centre and a node that no call made, by the engine (printed by a small program). -/
import Derived.Test.YtmnpnnegnlhemaaCq
import Derived.WalkKit
import Derived.Test.YtmnpnnegnlhemaaFv
namespace Go.Proofs.Ytmnpnnegnlhemaa.Eng
open Go

def zC : List SV := [.raw (.int .i64 0), .raw (.int .i64 0), .raw (.int .i64 0), .raw (.int .i64 0), .raw (.bool false), .raw (.int .i64 0), .raw (.int .i64 0), .raw (.slice none 0 0), .raw (.map none)]
def zN : List SV := [.raw (.int .i64 0), .raw (.bool false), .raw (.int .i64 0), .raw (.int .i64 0), .raw (.int .i64 0), .raw (.int .i64 0), .raw (.slice none 0 0)]
def nw : SV := .agg [.raw (.int .i64 0), .raw (.int .i64 0), .raw (.int .i64 0)]

theorem nil55 (E : Addr → Option Value) : Ok Try.prog E 55 [.raw (.pointer none)] [] (rb false) [] := by
  refine ⟨⟨Try.f55, Try.func55, rfl, rfl⟩, Nat.le_refl _, ?_⟩
  intro g ρ w vargs hE hs hr
  have hw : Calls Try.prog 55 #[.pointer none] w fun e w' => e = .returned (.bool false) ∧ w' = w := by
    go_enter Try.func55, Try.ntmps55
    go_wp2
    go_ret
    exact ⟨rfl, rfl⟩
  match vargs, hr with
  | [v], hr =>
    simp only [RL, R] at hr
    obtain ⟨rfl, _⟩ := hr
    exact hw.mono (fun e w' ⟨he, hw⟩ => ⟨ρ, _, he, Env.le_refl _, hw ▸ hs, by simp [R]⟩)
  | [], hr => simp only [RL] at hr
  | _ :: _ :: _, hr => simp only [RL] at hr; exact hr.2.elim

theorem nil48 (E : Addr → Option Value) : Ok Try.prog E 48 [.raw (.pointer none)] [] (rb false) [] := by
  refine ⟨⟨Try.f48, Try.func48, rfl, rfl⟩, Nat.le_refl _, ?_⟩
  intro g ρ w vargs hE hs hr
  have hw : Calls Try.prog 48 #[.pointer none] w fun e w' => e = .returned (.bool false) ∧ w' = w := by
    go_enter Try.func48, Try.ntmps48
    go_wp2
    go_ret
    exact ⟨rfl, rfl⟩
  match vargs, hr with
  | [v], hr =>
    simp only [RL, R] at hr
    obtain ⟨rfl, _⟩ := hr
    exact hw.mono (fun e w' ⟨he, hw⟩ => ⟨ρ, _, he, Env.le_refl _, hw ▸ hs, by simp [R]⟩)
  | [], hr => simp only [RL] at hr
  | _ :: _ :: _, hr => simp only [RL] at hr; exact hr.2.elim

def Γnil : Con := fun f args H => match f with
  | .func 55 => match args with
    | [.raw (.pointer none)] => ⟨True, .raw (.bool false), H⟩
    | _ => no
  | .func 48 => match args with
    | [.raw (.pointer none)] => ⟨True, .raw (.bool false), H⟩
    | _ => no
  | _ => no
theorem Γnil_sound (E : Addr → Option Value) : Con.Sound Try.prog E Γnil := by
  intro f args H h
  unfold Γnil at h ⊢
  split at h
  · split at h
    · exact lift0 (nil55 E) (fun _ => rfl) rfl (fun _ => rfl) H
    · exact h.elim
  · split at h
    · exact lift0 (nil48 E) (fun _ => rfl) rfl (fun _ => rfl) H
    · exact h.elim
  · exact h.elim

set_option maxRecDepth 100000 in
theorem nil29 (E : Addr → Option Value) (k : Int) : Ok Try.prog E 29 [.raw (.pointer none), ri k] [] (ri 1) [] := by
  refine ok_of_eng (pl := pl29) mixed (Γnil_sound E) Try.func29 rfl rfl (by kernel_rfl) (by simp) 100 (fun F hF => ?_)
  simp only [Try.f29, pl29, Γnil, ri, eng, litSt, srunA_nil, srunA_b, stepR, contB_mk, r0, regC, sop, unw, strip, sev, tg, tset, tput, undefs, needs, opNeeds, selC, sCall, sUn, List.length_cons, List.length_nil, List.cons_append, List.nil_append, List.map_cons, List.map_nil, true_and, and_self, eq_self, Bool.not_false, Nat.zero_add, Nat.reduceAdd, Nat.reduceSub]
  exact hF _ _ _ ⟨trivial, by simp only [Try.f29, ri, retP, sResults, sRes1, resK, retV, vwk, vwk1, hwk, sc, tg, List.length_nil, and_self, eq_self, Nat.le_refl]⟩

set_option maxRecDepth 100000 in
theorem nil31 (E : Addr → Option Value) (k n m : Int) : Ok Try.prog E 31 [.raw (.pointer none), word k n m] [] (.tup [nw, ri 1]) [] := by
  refine ok_of_eng (pl := pl31) mixed (Γnil_sound E) Try.func31 rfl rfl (by kernel_rfl) (by simp) 100 (fun F hF => ?_)
  simp only [Try.f31, pl31, Γnil, word, ri, eng, litSt, srunA_nil, srunA_b, stepR, contB_mk, r0, regC, sop, unw, strip, sev, tg, tset, tput, undefs, needs, opNeeds, selC, sStore, sNew, sAlloc, sBox, sFill, sBuild, sCall, sUn, hget, hset, vcells, one, splice, holeAt, idxAt, pushAt, nth, List.length_cons, List.length_nil, List.cons_append, List.nil_append, List.append_nil, List.map_cons, List.map_nil, List.take_zero, List.drop_succ_cons, List.drop_nil, List.all_cons, List.all_nil, true_and, and_self, eq_self, Bool.not_false, Bool.and_self, Nat.zero_add, Nat.le_refl, Value.oneCell', Nat.reduceAdd, Nat.reduceSub, tk41, ts41, tz41, tpl41]
  exact hF _ _ _ ⟨trivial, by simp only [Try.f31, nw, ri, retP, sResults, sRes1, resK, retV, vwk, vwks, vwk1, hwk, sc, scs, tg, sLoad, cellsAt, hget, List.length_cons, List.length_nil, List.take_succ_cons, List.take_nil, List.drop_zero, and_self, eq_self, Bool.and_self, Nat.zero_add, Nat.le_refl, Nat.reduceAdd, tk41, ts41, ta41]⟩

set_option maxRecDepth 100000 in
theorem nil33 (E : Addr → Option Value)  : Ok Try.prog E 33 [.raw (.pointer none)] [] (ri 1) [] := by
  refine ok_of_eng (pl := pl33) mixed (Γnil_sound E) Try.func33 rfl rfl (by kernel_rfl) (by simp) 100 (fun F hF => ?_)
  simp only [Try.f33, pl33, Γnil, eng, litSt, srunA_nil, srunA_b, stepR, contB_mk, r0, regC, sop, unw, strip, sev, tg, tset, tput, undefs, needs, opNeeds, selC, sCall, sUn, List.length_cons, List.length_nil, List.cons_append, List.nil_append, List.map_cons, List.map_nil, true_and, and_self, eq_self, Bool.not_false, Nat.zero_add, Nat.reduceSub, Int.reduceNeg]
  exact hF _ _ _ ⟨trivial, by simp only [Try.f33, ri, retP, sResults, sRes1, resK, retV, vwk, vwk1, hwk, sc, tg, List.length_nil, and_self, eq_self, Nat.le_refl, Int.reduceNeg]⟩

set_option maxRecDepth 100000 in
theorem nil35 (E : Addr → Option Value)  : Ok Try.prog E 35 [.raw (.pointer none)] [] (ri 1) [] := by
  refine ok_of_eng (pl := pl35) mixed (Γnil_sound E) Try.func35 rfl rfl (by kernel_rfl) (by simp) 100 (fun F hF => ?_)
  simp only [Try.f35, pl35, Γnil, eng, litSt, srunA_nil, srunA_b, stepR, contB_mk, r0, regC, sop, unw, strip, sev, tg, tset, tput, undefs, needs, opNeeds, selC, sCall, sUn, List.length_cons, List.length_nil, List.cons_append, List.nil_append, List.map_cons, List.map_nil, true_and, and_self, eq_self, Bool.not_false, Nat.zero_add, Nat.reduceSub]
  exact hF _ _ _ ⟨trivial, by simp only [Try.f35, ri, retP, sResults, sRes1, resK, retV, vwk, vwk1, hwk, sc, tg, List.length_nil, and_self, eq_self, Nat.le_refl]⟩

set_option maxRecDepth 100000 in
theorem nil37 (E : Addr → Option Value)  : Ok Try.prog E 37 [.raw (.pointer none)] [] (.tup [ri 0, ri 0]) [] := by
  refine ok_of_eng (pl := pl37) mixed (Γnil_sound E) Try.func37 rfl rfl (by kernel_rfl) (by simp) 100 (fun F hF => ?_)
  simp only [Try.f37, pl37, Γnil, eng, litSt, srunA_nil, srunA_b, stepR, contB_mk, r0, regC, sop, unw, strip, sev, tg, tset, tput, undefs, needs, opNeeds, selC, sCall, sUn, List.length_cons, List.length_nil, List.cons_append, List.nil_append, List.map_cons, List.map_nil, true_and, and_self, eq_self, Bool.not_false, Nat.zero_add, Nat.reduceSub]
  exact hF _ _ _ ⟨trivial, by simp only [Try.f37, ri, retP, sResults, sRes1, resK, retV, vwk, vwks, vwk1, hwk, sc, scs, tg, List.length_nil, and_self, eq_self, Bool.and_self, Nat.le_refl]⟩

def pl39 : Nat → Plan
  | _ => []
set_option maxRecDepth 100000 in
theorem nil39 (E : Addr → Option Value)  : Ok Try.prog E 39 [.raw (.pointer none)] [] (rb false) [] := by
  refine ok_of_eng (pl := pl39) mixed (Γnil_sound E) Try.func39 rfl rfl (by kernel_rfl) (by simp) 100 (fun F hF => ?_)
  simp only [Try.f39, pl39, Γnil, no, eng, litSt, srunA_nil, srunA_b, stepR, contB_mk, r0, r1, r2, regC, sop, unw, strip, sev, tg, tset, tput, undefs, needs, opNeeds, sBin, gb, gslot, gdst, onth, wants, sPick, sLoad, sNil, sField, sCall, cellsAt, hd1, List.length_cons, List.length_nil, List.cons_append, List.nil_append, List.map_cons, List.map_nil, true_and, and_self, and_false, implies_true, imp_self, eq_self, Bool.false_eq_true, Nat.zero_add, ↓reduceIte, Nat.reduceSub, tk3, ta3, tf87_0, tf90_1]
  exact hF _ _ _ ⟨trivial, by simp only [Try.f39, rb, retP, sResults, sRes1, resK, retV, vwk, vwk1, hwk, sc, tg, List.length_nil, and_self, eq_self, Nat.le_refl]⟩

set_option maxRecDepth 100000 in
theorem nil17 (E : Addr → Option Value)  : Ok Try.prog E 17 [.raw (.pointer none)] [] (.tup [nw, ri 1]) [] := by
  refine ok_of_eng (pl := pl17) mixed (Γnil_sound E) Try.func17 rfl rfl (by kernel_rfl) (by simp) 100 (fun F hF => ?_)
  simp only [Try.f17, pl17, Γnil, eng, litSt, srunA_nil, srunA_b, stepR, contB_mk, r0, regC, sop, unw, strip, sev, tg, tset, tput, undefs, needs, opNeeds, selC, sStore, sNew, sAlloc, sFill, sBuild, sCall, sUn, hget, hset, vcells, one, splice, holeAt, idxAt, pushAt, nth, List.length_cons, List.length_nil, List.cons_append, List.nil_append, List.append_nil, List.map_cons, List.map_nil, List.take_zero, List.drop_succ_cons, List.drop_nil, List.all_cons, List.all_nil, true_and, and_self, eq_self, Bool.not_false, Bool.and_self, Nat.zero_add, Nat.le_refl, Value.oneCell', Nat.reduceAdd, Nat.reduceSub, tk41, ts41, tz41, tpl41]
  exact hF _ _ _ ⟨trivial, by simp only [Try.f17, nw, ri, retP, sResults, sRes1, resK, retV, vwk, vwks, vwk1, hwk, sc, scs, tg, sLoad, cellsAt, hget, List.length_cons, List.length_nil, List.take_succ_cons, List.take_nil, List.drop_zero, and_self, eq_self, Bool.and_self, Nat.zero_add, Nat.le_refl, Nat.reduceAdd, tk41, ts41, ta41]⟩

set_option maxRecDepth 100000 in
theorem nil19 (E : Addr → Option Value) (k n m : Int) : Ok Try.prog E 19 [.raw (.pointer none), word k n m] [] (ri 1) [] := by
  refine ok_of_eng (pl := pl19) mixed (Γnil_sound E) Try.func19 rfl rfl (by kernel_rfl) (by simp) 100 (fun F hF => ?_)
  simp only [Try.f19, pl19, Γnil, word, ri, eng, litSt, srunA_nil, srunA_b, stepR, contB_mk, r0, regC, sop, unw, strip, sev, tg, tset, tput, undefs, needs, opNeeds, selC, sBox, sCall, sUn, vcells, one, holeAt, idxAt, pushAt, List.length_cons, List.length_nil, List.cons_append, List.nil_append, List.map_cons, List.map_nil, List.all_cons, List.all_nil, true_and, and_self, eq_self, Bool.not_false, Bool.and_self, Nat.zero_add, Value.oneCell', Nat.reduceAdd, Nat.reduceSub]
  exact hF _ _ _ ⟨trivial, by simp only [Try.f19, ri, retP, sResults, sRes1, resK, retV, vwk, vwk1, hwk, sc, tg, List.length_nil, and_self, eq_self, Nat.le_refl]⟩

set_option maxRecDepth 100000 in
theorem nil21 (E : Addr → Option Value)  : Ok Try.prog E 21 [.raw (.pointer none)] [] (ri 1) [] := by
  refine ok_of_eng (pl := pl21) mixed (Γnil_sound E) Try.func21 rfl rfl (by kernel_rfl) (by simp) 100 (fun F hF => ?_)
  simp only [Try.f21, pl21, Γnil, eng, litSt, srunA_nil, srunA_b, stepR, contB_mk, r0, regC, sop, unw, strip, sev, tg, tset, tput, undefs, needs, opNeeds, selC, sCall, sUn, List.length_cons, List.length_nil, List.cons_append, List.nil_append, List.map_cons, List.map_nil, true_and, and_self, eq_self, Bool.not_false, Nat.zero_add, Nat.reduceSub, ]
  exact hF _ _ _ ⟨trivial, by simp only [Try.f21, ri, retP, sResults, sRes1, resK, retV, vwk, vwk1, hwk, sc, tg, List.length_nil, and_self, eq_self, Nat.le_refl, ]⟩

set_option maxRecDepth 100000 in
theorem nil23 (E : Addr → Option Value)  : Ok Try.prog E 23 [.raw (.pointer none)] [] (.tup [nw, ri 1]) [] := by
  refine ok_of_eng (pl := pl23) mixed (Γnil_sound E) Try.func23 rfl rfl (by kernel_rfl) (by simp) 100 (fun F hF => ?_)
  simp only [Try.f23, pl23, Γnil, eng, litSt, srunA_nil, srunA_b, stepR, contB_mk, r0, regC, sop, unw, strip, sev, tg, tset, tput, undefs, needs, opNeeds, selC, sStore, sNew, sAlloc, sFill, sBuild, sCall, sUn, hget, hset, vcells, one, splice, holeAt, idxAt, pushAt, nth, List.length_cons, List.length_nil, List.cons_append, List.nil_append, List.append_nil, List.map_cons, List.map_nil, List.take_zero, List.drop_succ_cons, List.drop_nil, List.all_cons, List.all_nil, true_and, and_self, eq_self, Bool.not_false, Bool.and_self, Nat.zero_add, Nat.le_refl, Value.oneCell', Nat.reduceAdd, Nat.reduceSub, tk41, ts41, tz41, tpl41]
  exact hF _ _ _ ⟨trivial, by simp only [Try.f23, nw, ri, retP, sResults, sRes1, resK, retV, vwk, vwks, vwk1, hwk, sc, scs, tg, sLoad, cellsAt, hget, List.length_cons, List.length_nil, List.take_succ_cons, List.take_nil, List.drop_zero, and_self, eq_self, Bool.and_self, Nat.zero_add, Nat.le_refl, Nat.reduceAdd, tk41, ts41, ta41]⟩

set_option maxRecDepth 100000 in
theorem nil25 (E : Addr → Option Value)  : Ok Try.prog E 25 [.raw (.pointer none)] [] (ri 1) [] := by
  refine ok_of_eng (pl := pl25) mixed (Γnil_sound E) Try.func25 rfl rfl (by kernel_rfl) (by simp) 100 (fun F hF => ?_)
  simp only [Try.f25, pl25, Γnil, eng, litSt, srunA_nil, srunA_b, stepR, contB_mk, r0, regC, sop, unw, strip, sev, tg, tset, tput, undefs, needs, opNeeds, selC, sCall, sUn, List.length_cons, List.length_nil, List.cons_append, List.nil_append, List.map_cons, List.map_nil, true_and, and_self, eq_self, Bool.not_false, Nat.zero_add, Nat.reduceSub]
  exact hF _ _ _ ⟨trivial, by simp only [Try.f25, ri, retP, sResults, sRes1, resK, retV, vwk, vwk1, hwk, sc, tg, List.length_nil, and_self, eq_self, Nat.le_refl]⟩

set_option maxRecDepth 100000 in
theorem nil26 (E : Addr → Option Value)  : Ok Try.prog E 26 [.raw (.pointer none)] [] (.tup [ri 0, ri 0]) [] := by
  refine ok_of_eng (pl := pl26) mixed (Γnil_sound E) Try.func26 rfl rfl (by kernel_rfl) (by simp) 100 (fun F hF => ?_)
  simp only [Try.f26, pl26, Γnil, eng, litSt, srunA_nil, srunA_b, stepR, contB_mk, r0, regC, sop, unw, strip, sev, tg, tset, tput, undefs, needs, opNeeds, selC, sCall, sUn, List.length_cons, List.length_nil, List.cons_append, List.nil_append, List.map_cons, List.map_nil, true_and, and_self, eq_self, Bool.not_false, Nat.zero_add, Nat.reduceSub]
  exact hF _ _ _ ⟨trivial, by simp only [Try.f26, ri, retP, sResults, sRes1, resK, retV, vwk, vwks, vwk1, hwk, sc, scs, tg, List.length_nil, and_self, eq_self, Bool.and_self, Nat.le_refl]⟩

set_option maxRecDepth 100000 in
theorem nil27 (E : Addr → Option Value)  : Ok Try.prog E 27 [.raw (.pointer none)] [] (rb false) [] := by
  refine ok_of_eng (pl := pl27) mixed (Γnil_sound E) Try.func27 rfl rfl (by kernel_rfl) (by simp) 100 (fun F hF => ?_)
  simp only [Try.f27, pl27, Γnil, no, eng, litSt, srunA_nil, srunA_b, stepR, contB_mk, r0, r1, r2, regC, sop, unw, strip, sev, tg, tset, tput, undefs, needs, opNeeds, sBin, gb, gslot, gdst, onth, wants, sPick, sLoad, sNil, sField, sCall, cellsAt, hd1, drawSt, preL, chkL, stp, nxtB_mk, pref_0, pref_b, allocOp, holes, List.length_cons, List.length_nil, List.cons_append, List.nil_append, List.append_nil, List.map_cons, List.map_nil, true_and, and_self, and_false, implies_true, imp_self, eq_self, Bool.false_eq_true, Nat.zero_add, ↓reduceIte, Nat.reduceAdd, Nat.reduceSub, tk3, ta3, tf85_0, tf96_0, tf96_4]
  exact hF _ _ _ ⟨trivial, by simp only [Try.f27, rb, retP, sResults, sRes1, resK, retV, vwk, vwk1, hwk, sc, tg, List.length_nil, and_self, eq_self, Nat.le_refl]⟩

def pl55 : Nat → Plan
  | _ => []
set_option maxRecDepth 100000 in
theorem zero55 (E : Addr → Option Value)  : Ok Try.prog E 55 [.ptr 0 0] [.cells zC 90] (rb false) [.cells zC 90] := by
  refine ok_of_eng (pl := pl55) mixed (Γ0_sound E) Try.func55 rfl rfl (by kernel_rfl) (by simp) 100 (fun F hF => ?_)
  simp only [Try.f55, pl55, zC, eng, litSt, srunA_nil, srunA_b, stepR, contB_mk, r0, r1, r2, regC, sop, unw, strip, sev, tg, tset, tput, undefs, needs, opNeeds, sBin, gb, gslot, gdst, onth, wants, sPick, sLoad, sNil, sField, cellsAt, hget, hd1, List.length_cons, List.length_nil, List.cons_append, List.nil_append, List.take_succ_cons, List.take_zero, List.drop_succ_cons, List.drop_zero, true_and, and_self, implies_true, not_false_eq_true, eq_self, ne_eq, Bool.true_eq_false, Bool.cond_true, Nat.zero_add, reduceCtorEq, ↓reduceIte, Nat.reduceAdd, Nat.reduceSub, Nat.reduceLeDiff, tk4, ta4, tp27, tf90_2]
  exact hF _ _ _ ⟨trivial, by simp only [Try.f55, zC, rb, retP, sResults, sRes1, resK, retV, vwk, vwks, vwk1, hwk, bwk, sc, scs, tg, List.length_cons, List.length_nil, and_self, eq_self, Bool.and_self, Nat.zero_add, Nat.le_refl]⟩

def pl48 : Nat → Plan
  | _ => []
set_option maxRecDepth 100000 in
theorem zero48 (E : Addr → Option Value)  : Ok Try.prog E 48 [.ptr 0 0] [.cells zN 96] (rb false) [.cells zN 96] := by
  refine ok_of_eng (pl := pl48) mixed (Γ0_sound E) Try.func48 rfl rfl (by kernel_rfl) (by simp) 100 (fun F hF => ?_)
  simp only [Try.f48, pl48, zN, eng, litSt, srunA_nil, srunA_b, stepR, contB_mk, r0, r1, r2, regC, sop, unw, strip, sev, tg, tset, tput, undefs, needs, opNeeds, sBin, gb, gslot, gdst, onth, wants, sPick, sLoad, sNil, sField, cellsAt, hget, hd1, List.length_cons, List.length_nil, List.cons_append, List.nil_append, List.take_succ_cons, List.take_zero, List.drop_succ_cons, List.drop_zero, true_and, and_self, implies_true, not_false_eq_true, eq_self, ne_eq, Bool.true_eq_false, Bool.cond_true, Nat.zero_add, reduceCtorEq, ↓reduceIte, Nat.reduceAdd, Nat.reduceSub, Nat.reduceLeDiff, tk4, ta4, tp30, tf96_1]
  exact hF _ _ _ ⟨trivial, by simp only [Try.f48, zN, rb, retP, sResults, sRes1, resK, retV, vwk, vwks, vwk1, hwk, bwk, sc, scs, tg, List.length_cons, List.length_nil, and_self, eq_self, Bool.and_self, Nat.zero_add, Nat.le_refl]⟩

/-- A call on a zero object at a block: it stays as it is. -/
def onZ (cs : List SV) (t : TypeId) (v : SV) (H : List AB) (i : Nat) : Res := ⟨subH (sig [i] H.length) H [i] [.cells cs t], ren (sig [i] H.length) v, updH (sig [i] H.length) H [i] [.cells cs t]⟩
theorem onZ_sound {E : Addr → Option Value} {fn : FuncId} {args : List SV} {cs : List SV} {t : TypeId} {v : SV} {H : List AB} {i : Nat} (hok : Ok Try.prog E fn (.ptr 0 0 :: args) [.cells cs t] v [.cells cs t])
    (ha : ∀ τ : Nat → Nat, rens τ args = args) (hs : scs 1 args = true) (hc : hwk [AB.cells cs t].length [.cells cs t] [.cells cs t]) (h : (onZ cs t v H i).pre) : Ok Try.prog E fn (.ptr i 0 :: args) H (onZ cs t v H i).val (onZ cs t v H i).heap := by
  have := hok.frame H [i] h (by simp) (by simp only [scs, sc, List.length_cons, List.length_nil, hs]; rfl) hc
  simp only [rens, ren, ha] at this
  rwa [show sig [i] H.length 0 = i from rfl] at this
theorem hwk_zC : hwk [AB.cells zC 90].length [.cells zC 90] [.cells zC 90] := by simp only [zC, vwks, vwk1, hwk, bwk, sc, scs, List.length_cons, List.length_nil, and_self, eq_self, Bool.and_self, Nat.zero_add]
theorem hwk_zN : hwk [AB.cells zN 96].length [.cells zN 96] [.cells zN 96] := by simp only [zN, vwks, vwk1, hwk, bwk, sc, scs, List.length_cons, List.length_nil, and_self, eq_self, Bool.and_self, Nat.zero_add]
def Γzero : Con := fun f args H => match f with
  | .func 55 => match args with
    | [.ptr i 0] => onZ zC 90 (.raw (.bool false)) H i
    | _ => no
  | .func 48 => match args with
    | [.ptr i 0] => onZ zN 96 (.raw (.bool false)) H i
    | _ => no
  | _ => no
theorem Γzero_sound (E : Addr → Option Value) : Con.Sound Try.prog E Γzero := by
  intro f args H h
  unfold Γzero at h ⊢
  split at h
  · split at h
    · exact onZ_sound (args := []) (zero55 E) (fun _ => rfl) rfl hwk_zC h
    · exact h.elim
  · split at h
    · exact onZ_sound (args := []) (zero48 E) (fun _ => rfl) rfl hwk_zN h
    · exact h.elim
  · exact h.elim

set_option maxRecDepth 100000 in
theorem zero29 (E : Addr → Option Value) (k : Int) : Ok Try.prog E 29 [.ptr 0 0, ri k] [.cells zC 90] (ri 1) [.cells zC 90] := by
  refine ok_of_eng (pl := pl29) mixed (Γzero_sound E) Try.func29 rfl rfl (by kernel_rfl) (by simp) 100 (fun F hF => ?_)
  simp only [Try.f29, pl29, Γzero, onZ, zC, ri, renB, rens, ren, subH, updH, eng, litSt, srunA_nil, srunA_b, stepR, contB_mk, r0, regC, sop, unw, strip, sev, tg, tset, tput, undefs, needs, opNeeds, selC, sCall, sUn, hget, hset, List.length_cons, List.length_nil, List.cons_append, List.nil_append, List.append_nil, List.map_cons, List.map_nil, true_and, and_self, eq_self, Bool.not_false, Nat.zero_add, Nat.reduceAdd, Nat.reduceSub, Nat.reduceLT]
  exact hF _ _ _ ⟨trivial, by simp only [Try.f29, zC, ri, retP, sResults, sRes1, resK, retV, vwk, vwks, vwk1, hwk, bwk, sc, scs, tg, List.length_cons, List.length_nil, and_self, eq_self, Bool.and_self, Nat.zero_add, Nat.le_refl]⟩

set_option maxRecDepth 100000 in
theorem zero31 (E : Addr → Option Value) (k n m : Int) : Ok Try.prog E 31 [.ptr 0 0, word k n m] [.cells zC 90] (.tup [nw, ri 1]) [.cells zC 90] := by
  refine ok_of_eng (pl := pl31) mixed (Γzero_sound E) Try.func31 rfl rfl (by kernel_rfl) (by simp) 100 (fun F hF => ?_)
  simp only [Try.f31, pl31, Γzero, onZ, zC, word, ri, renB, rens, ren, subH, updH, eng, litSt, srunA_nil, srunA_b, stepR, contB_mk, r0, regC, sop, unw, strip, sev, tg, tset, tput, undefs, needs, opNeeds, selC, sStore, sNew, sAlloc, sBox, sFill, sBuild, sCall, sUn, hget, hset, vcells, one, splice, holeAt, idxAt, pushAt, nth, List.length_cons, List.length_nil, List.cons_append, List.nil_append, List.append_nil, List.map_cons, List.map_nil, List.take_zero, List.drop_succ_cons, List.drop_nil, List.all_cons, List.all_nil, true_and, and_self, eq_self, Bool.not_false, Bool.and_self, Nat.zero_add, Nat.le_refl, Value.oneCell', Nat.reduceAdd, Nat.reduceSub, Nat.reduceLT, tk41, ts41, tz41, tpl41]
  exact hF _ _ _ ⟨trivial, by simp only [Try.f31, zC, nw, ri, retP, sResults, sRes1, resK, retV, vwk, vwks, vwk1, hwk, bwk, sc, scs, tg, sLoad, cellsAt, hget, List.length_cons, List.length_nil, List.take_succ_cons, List.take_nil, List.drop_zero, and_self, eq_self, Bool.and_self, Nat.zero_add, Nat.le_refl, Nat.reduceAdd, tk41, ts41, ta41]⟩

set_option maxRecDepth 100000 in
theorem zero33 (E : Addr → Option Value)  : Ok Try.prog E 33 [.ptr 0 0] [.cells zC 90] (ri 1) [.cells zC 90] := by
  refine ok_of_eng (pl := pl33) mixed (Γzero_sound E) Try.func33 rfl rfl (by kernel_rfl) (by simp) 100 (fun F hF => ?_)
  simp only [Try.f33, pl33, Γzero, onZ, zC, renB, rens, ren, subH, updH, eng, litSt, srunA_nil, srunA_b, stepR, contB_mk, r0, regC, sop, unw, strip, sev, tg, tset, tput, undefs, needs, opNeeds, selC, sCall, sUn, hget, hset, List.length_cons, List.length_nil, List.cons_append, List.nil_append, List.append_nil, List.map_cons, List.map_nil, true_and, and_self, eq_self, Bool.not_false, Nat.zero_add, Nat.reduceSub, Nat.reduceLT, Int.reduceNeg]
  exact hF _ _ _ ⟨trivial, by simp only [Try.f33, zC, ri, retP, sResults, sRes1, resK, retV, vwk, vwks, vwk1, hwk, bwk, sc, scs, tg, List.length_cons, List.length_nil, and_self, eq_self, Bool.and_self, Nat.zero_add, Nat.le_refl, Int.reduceNeg]⟩

set_option maxRecDepth 100000 in
theorem zero35 (E : Addr → Option Value)  : Ok Try.prog E 35 [.ptr 0 0] [.cells zC 90] (ri 1) [.cells zC 90] := by
  refine ok_of_eng (pl := pl35) mixed (Γzero_sound E) Try.func35 rfl rfl (by kernel_rfl) (by simp) 100 (fun F hF => ?_)
  simp only [Try.f35, pl35, Γzero, onZ, zC, renB, rens, ren, subH, updH, eng, litSt, srunA_nil, srunA_b, stepR, contB_mk, r0, regC, sop, unw, strip, sev, tg, tset, tput, undefs, needs, opNeeds, selC, sCall, sUn, hget, hset, List.length_cons, List.length_nil, List.cons_append, List.nil_append, List.append_nil, List.map_cons, List.map_nil, true_and, and_self, eq_self, Bool.not_false, Nat.zero_add, Nat.reduceSub, Nat.reduceLT]
  exact hF _ _ _ ⟨trivial, by simp only [Try.f35, zC, ri, retP, sResults, sRes1, resK, retV, vwk, vwks, vwk1, hwk, bwk, sc, scs, tg, List.length_cons, List.length_nil, and_self, eq_self, Bool.and_self, Nat.zero_add, Nat.le_refl]⟩

set_option maxRecDepth 100000 in
theorem zero37 (E : Addr → Option Value)  : Ok Try.prog E 37 [.ptr 0 0] [.cells zC 90] (.tup [ri 0, ri 0]) [.cells zC 90] := by
  refine ok_of_eng (pl := pl37) mixed (Γzero_sound E) Try.func37 rfl rfl (by kernel_rfl) (by simp) 100 (fun F hF => ?_)
  simp only [Try.f37, pl37, Γzero, onZ, zC, renB, rens, ren, subH, updH, eng, litSt, srunA_nil, srunA_b, stepR, contB_mk, r0, regC, sop, unw, strip, sev, tg, tset, tput, undefs, needs, opNeeds, selC, sCall, sUn, hget, hset, List.length_cons, List.length_nil, List.cons_append, List.nil_append, List.append_nil, List.map_cons, List.map_nil, true_and, and_self, eq_self, Bool.not_false, Nat.zero_add, Nat.reduceSub, Nat.reduceLT]
  exact hF _ _ _ ⟨trivial, by simp only [Try.f37, zC, ri, retP, sResults, sRes1, resK, retV, vwk, vwks, vwk1, hwk, bwk, sc, scs, tg, List.length_cons, List.length_nil, and_self, eq_self, Bool.and_self, Nat.zero_add, Nat.le_refl]⟩

set_option maxRecDepth 100000 in
theorem zero39 (E : Addr → Option Value)  : Ok Try.prog E 39 [.ptr 0 0] [.cells zC 90] (rb false) [.cells zC 90] := by
  refine ok_of_eng (pl := pl39) mixed (Γzero_sound E) Try.func39 rfl rfl (by kernel_rfl) (by simp) 100 (fun F hF => ?_)
  simp only [Try.f39, pl39, Γzero, onZ, zC, renB, rens, ren, subH, updH, eng, litSt, srunA_nil, srunA_b, stepR, contB_mk, r0, r1, r2, regC, sop, unw, strip, sev, tg, tset, tput, undefs, needs, opNeeds, sBin, ibin, shiftOp, gb, gslot, gdst, onth, wants, sPick, sLoad, sNil, sField, sCall, cellsAt, hget, hset, hd1, List.length_cons, List.length_nil, List.cons_append, List.nil_append, List.append_nil, List.map_cons, List.map_nil, List.take_succ_cons, List.take_zero, List.drop_succ_cons, List.drop_zero, true_and, and_self, or_true, implies_true, imp_self, not_false_eq_true, eq_self, ne_eq, Bool.false_eq_true, Bool.cond_false, decide_true, Nat.zero_add, Nat.add_zero, reduceCtorEq, ↓reduceIte, Nat.reduceAdd, Nat.reduceSub, Nat.reduceLT, Nat.reduceLeDiff, tk3, ta3, tf87_0, tf90_1]
  exact hF _ _ _ ⟨trivial, by simp only [Try.f39, zC, rb, retP, sResults, sRes1, resK, retV, vwk, vwks, vwk1, hwk, bwk, sc, scs, tg, List.length_cons, List.length_nil, and_self, eq_self, Bool.and_self, Nat.zero_add, Nat.le_refl]⟩

set_option maxRecDepth 100000 in
theorem zero17 (E : Addr → Option Value)  : Ok Try.prog E 17 [.ptr 0 0] [.cells zN 96] (.tup [nw, ri 1]) [.cells zN 96] := by
  refine ok_of_eng (pl := pl17) mixed (Γzero_sound E) Try.func17 rfl rfl (by kernel_rfl) (by simp) 100 (fun F hF => ?_)
  simp only [Try.f17, pl17, Γzero, onZ, zN, renB, rens, ren, subH, updH, eng, litSt, srunA_nil, srunA_b, stepR, contB_mk, r0, regC, sop, unw, strip, sev, tg, tset, tput, undefs, needs, opNeeds, selC, sStore, sNew, sAlloc, sFill, sBuild, sCall, sUn, hget, hset, vcells, one, splice, holeAt, idxAt, pushAt, nth, List.length_cons, List.length_nil, List.cons_append, List.nil_append, List.append_nil, List.map_cons, List.map_nil, List.take_zero, List.drop_succ_cons, List.drop_nil, List.all_cons, List.all_nil, true_and, and_self, eq_self, Bool.not_false, Bool.and_self, Nat.zero_add, Nat.le_refl, Value.oneCell', Nat.reduceAdd, Nat.reduceSub, Nat.reduceLT, tk41, ts41, tz41, tpl41]
  exact hF _ _ _ ⟨trivial, by simp only [Try.f17, zN, nw, ri, retP, sResults, sRes1, resK, retV, vwk, vwks, vwk1, hwk, bwk, sc, scs, tg, sLoad, cellsAt, hget, List.length_cons, List.length_nil, List.take_succ_cons, List.take_nil, List.drop_zero, and_self, eq_self, Bool.and_self, Nat.zero_add, Nat.le_refl, Nat.reduceAdd, tk41, ts41, ta41]⟩

set_option maxRecDepth 100000 in
theorem zero19 (E : Addr → Option Value) (k n m : Int) : Ok Try.prog E 19 [.ptr 0 0, word k n m] [.cells zN 96] (ri 1) [.cells zN 96] := by
  refine ok_of_eng (pl := pl19) mixed (Γzero_sound E) Try.func19 rfl rfl (by kernel_rfl) (by simp) 100 (fun F hF => ?_)
  simp only [Try.f19, pl19, Γzero, onZ, zN, word, ri, renB, rens, ren, subH, updH, eng, litSt, srunA_nil, srunA_b, stepR, contB_mk, r0, regC, sop, unw, strip, sev, tg, tset, tput, undefs, needs, opNeeds, selC, sBox, sCall, sUn, hget, hset, vcells, one, holeAt, idxAt, pushAt, List.length_cons, List.length_nil, List.cons_append, List.nil_append, List.append_nil, List.map_cons, List.map_nil, List.all_cons, List.all_nil, true_and, and_self, eq_self, Bool.not_false, Bool.and_self, Nat.zero_add, Value.oneCell', Nat.reduceAdd, Nat.reduceSub, Nat.reduceLT]
  exact hF _ _ _ ⟨trivial, by simp only [Try.f19, zN, ri, retP, sResults, sRes1, resK, retV, vwk, vwks, vwk1, hwk, bwk, sc, scs, tg, List.length_cons, List.length_nil, and_self, eq_self, Bool.and_self, Nat.zero_add, Nat.le_refl]⟩

set_option maxRecDepth 100000 in
theorem zero21 (E : Addr → Option Value)  : Ok Try.prog E 21 [.ptr 0 0] [.cells zN 96] (ri 1) [.cells zN 96] := by
  refine ok_of_eng (pl := pl21) mixed (Γzero_sound E) Try.func21 rfl rfl (by kernel_rfl) (by simp) 100 (fun F hF => ?_)
  simp only [Try.f21, pl21, Γzero, onZ, zN, renB, rens, ren, subH, updH, eng, litSt, srunA_nil, srunA_b, stepR, contB_mk, r0, regC, sop, unw, strip, sev, tg, tset, tput, undefs, needs, opNeeds, selC, sCall, sUn, hget, hset, List.length_cons, List.length_nil, List.cons_append, List.nil_append, List.append_nil, List.map_cons, List.map_nil, true_and, and_self, eq_self, Bool.not_false, Nat.zero_add, Nat.reduceSub, Nat.reduceLT, ]
  exact hF _ _ _ ⟨trivial, by simp only [Try.f21, zN, ri, retP, sResults, sRes1, resK, retV, vwk, vwks, vwk1, hwk, bwk, sc, scs, tg, List.length_cons, List.length_nil, and_self, eq_self, Bool.and_self, Nat.zero_add, Nat.le_refl, ]⟩

set_option maxRecDepth 100000 in
theorem zero23 (E : Addr → Option Value)  : Ok Try.prog E 23 [.ptr 0 0] [.cells zN 96] (.tup [nw, ri 1]) [.cells zN 96] := by
  refine ok_of_eng (pl := pl23) mixed (Γzero_sound E) Try.func23 rfl rfl (by kernel_rfl) (by simp) 100 (fun F hF => ?_)
  simp only [Try.f23, pl23, Γzero, onZ, zN, renB, rens, ren, subH, updH, eng, litSt, srunA_nil, srunA_b, stepR, contB_mk, r0, regC, sop, unw, strip, sev, tg, tset, tput, undefs, needs, opNeeds, selC, sStore, sNew, sAlloc, sFill, sBuild, sCall, sUn, hget, hset, vcells, one, splice, holeAt, idxAt, pushAt, nth, List.length_cons, List.length_nil, List.cons_append, List.nil_append, List.append_nil, List.map_cons, List.map_nil, List.take_zero, List.drop_succ_cons, List.drop_nil, List.all_cons, List.all_nil, true_and, and_self, eq_self, Bool.not_false, Bool.and_self, Nat.zero_add, Nat.le_refl, Value.oneCell', Nat.reduceAdd, Nat.reduceSub, Nat.reduceLT, tk41, ts41, tz41, tpl41]
  exact hF _ _ _ ⟨trivial, by simp only [Try.f23, zN, nw, ri, retP, sResults, sRes1, resK, retV, vwk, vwks, vwk1, hwk, bwk, sc, scs, tg, sLoad, cellsAt, hget, List.length_cons, List.length_nil, List.take_succ_cons, List.take_nil, List.drop_zero, and_self, eq_self, Bool.and_self, Nat.zero_add, Nat.le_refl, Nat.reduceAdd, tk41, ts41, ta41]⟩

set_option maxRecDepth 100000 in
theorem zero25 (E : Addr → Option Value)  : Ok Try.prog E 25 [.ptr 0 0] [.cells zN 96] (ri 1) [.cells zN 96] := by
  refine ok_of_eng (pl := pl25) mixed (Γzero_sound E) Try.func25 rfl rfl (by kernel_rfl) (by simp) 100 (fun F hF => ?_)
  simp only [Try.f25, pl25, Γzero, onZ, zN, renB, rens, ren, subH, updH, eng, litSt, srunA_nil, srunA_b, stepR, contB_mk, r0, regC, sop, unw, strip, sev, tg, tset, tput, undefs, needs, opNeeds, selC, sCall, sUn, hget, hset, List.length_cons, List.length_nil, List.cons_append, List.nil_append, List.append_nil, List.map_cons, List.map_nil, true_and, and_self, eq_self, Bool.not_false, Nat.zero_add, Nat.reduceSub, Nat.reduceLT]
  exact hF _ _ _ ⟨trivial, by simp only [Try.f25, zN, ri, retP, sResults, sRes1, resK, retV, vwk, vwks, vwk1, hwk, bwk, sc, scs, tg, List.length_cons, List.length_nil, and_self, eq_self, Bool.and_self, Nat.zero_add, Nat.le_refl]⟩

set_option maxRecDepth 100000 in
theorem zero26 (E : Addr → Option Value)  : Ok Try.prog E 26 [.ptr 0 0] [.cells zN 96] (.tup [ri 0, ri 0]) [.cells zN 96] := by
  refine ok_of_eng (pl := pl26) mixed (Γzero_sound E) Try.func26 rfl rfl (by kernel_rfl) (by simp) 100 (fun F hF => ?_)
  simp only [Try.f26, pl26, Γzero, onZ, zN, renB, rens, ren, subH, updH, eng, litSt, srunA_nil, srunA_b, stepR, contB_mk, r0, regC, sop, unw, strip, sev, tg, tset, tput, undefs, needs, opNeeds, selC, sCall, sUn, hget, hset, List.length_cons, List.length_nil, List.cons_append, List.nil_append, List.append_nil, List.map_cons, List.map_nil, true_and, and_self, eq_self, Bool.not_false, Nat.zero_add, Nat.reduceSub, Nat.reduceLT]
  exact hF _ _ _ ⟨trivial, by simp only [Try.f26, zN, ri, retP, sResults, sRes1, resK, retV, vwk, vwks, vwk1, hwk, bwk, sc, scs, tg, List.length_cons, List.length_nil, and_self, eq_self, Bool.and_self, Nat.zero_add, Nat.le_refl]⟩

set_option maxRecDepth 100000 in
theorem zero27 (E : Addr → Option Value)  : Ok Try.prog E 27 [.ptr 0 0] [.cells zN 96] (rb false) [.cells zN 96] := by
  refine ok_of_eng (pl := pl27) mixed (Γzero_sound E) Try.func27 rfl rfl (by kernel_rfl) (by simp) 100 (fun F hF => ?_)
  simp only [Try.f27, pl27, Γzero, onZ, zN, renB, rens, ren, subH, updH, eng, litSt, srunA_nil, srunA_b, stepR, contB_mk, r0, r1, r2, regC, sop, unw, strip, sev, tg, tset, tput, undefs, needs, opNeeds, sBin, ibin, shiftOp, gb, gslot, gdst, onth, wants, sPick, sLoad, sNil, sField, sCall, cellsAt, hget, hset, hd1, drawSt, preL, chkL, stp, nxtB_mk, pref_0, pref_b, allocOp, holes, List.length_cons, List.length_nil, List.cons_append, List.nil_append, List.append_nil, List.map_cons, List.map_nil, List.take_succ_cons, List.take_zero, List.drop_succ_cons, List.drop_zero, true_and, and_self, or_true, implies_true, imp_self, not_false_eq_true, eq_self, ne_eq, Bool.false_eq_true, Bool.cond_false, decide_false, Nat.zero_add, Nat.add_zero, reduceCtorEq, ↓reduceIte, Nat.reduceAdd, Nat.reduceSub, Nat.reduceLT, Nat.reduceLeDiff, Int.reduceLT, tk3, ta3, tf85_0, tf96_0, tf96_4]
  exact hF _ _ _ ⟨trivial, by simp only [Try.f27, zN, rb, retP, sResults, sRes1, resK, retV, vwk, vwks, vwk1, hwk, bwk, sc, scs, tg, List.length_cons, List.length_nil, and_self, eq_self, Bool.and_self, Nat.zero_add, Nat.le_refl]⟩

def ΓV : Con := fun f args H => match f with
  | .func 29 => match args with
    | [.raw (.pointer none), .raw (.int .i64 _)] => ⟨True, .raw (.int .i64 1), H⟩
    | [.ptr i 0, .raw (.int .i64 _)] => onZ zC 90 (.raw (.int .i64 1)) H i
    | _ => no
  | .func 31 => match args with
    | [.raw (.pointer none), .agg [.raw (.int .i64 _), .raw (.int .i64 _), .raw (.int .i64 _)]] => ⟨True, .tup [nw, .raw (.int .i64 1)], H⟩
    | [.ptr i 0, .agg [.raw (.int .i64 _), .raw (.int .i64 _), .raw (.int .i64 _)]] => onZ zC 90 (.tup [nw, .raw (.int .i64 1)]) H i
    | _ => no
  | .func 33 => match args with
    | [.raw (.pointer none)] => ⟨True, .raw (.int .i64 1), H⟩
    | [.ptr i 0] => onZ zC 90 (.raw (.int .i64 1)) H i
    | _ => no
  | .func 35 => match args with
    | [.raw (.pointer none)] => ⟨True, .raw (.int .i64 1), H⟩
    | [.ptr i 0] => onZ zC 90 (.raw (.int .i64 1)) H i
    | _ => no
  | .func 37 => match args with
    | [.raw (.pointer none)] => ⟨True, .tup [.raw (.int .i64 0), .raw (.int .i64 0)], H⟩
    | [.ptr i 0] => onZ zC 90 (.tup [.raw (.int .i64 0), .raw (.int .i64 0)]) H i
    | _ => no
  | .func 39 => match args with
    | [.raw (.pointer none)] => ⟨True, .raw (.bool false), H⟩
    | [.ptr i 0] => onZ zC 90 (.raw (.bool false)) H i
    | _ => no
  | .func 17 => match args with
    | [.raw (.pointer none)] => ⟨True, .tup [nw, .raw (.int .i64 1)], H⟩
    | [.ptr i 0] => onZ zN 96 (.tup [nw, .raw (.int .i64 1)]) H i
    | _ => no
  | .func 19 => match args with
    | [.raw (.pointer none), .agg [.raw (.int .i64 _), .raw (.int .i64 _), .raw (.int .i64 _)]] => ⟨True, .raw (.int .i64 1), H⟩
    | [.ptr i 0, .agg [.raw (.int .i64 _), .raw (.int .i64 _), .raw (.int .i64 _)]] => onZ zN 96 (.raw (.int .i64 1)) H i
    | _ => no
  | .func 21 => match args with
    | [.raw (.pointer none)] => ⟨True, .raw (.int .i64 1), H⟩
    | [.ptr i 0] => onZ zN 96 (.raw (.int .i64 1)) H i
    | _ => no
  | .func 23 => match args with
    | [.raw (.pointer none)] => ⟨True, .tup [nw, .raw (.int .i64 1)], H⟩
    | [.ptr i 0] => onZ zN 96 (.tup [nw, .raw (.int .i64 1)]) H i
    | _ => no
  | .func 25 => match args with
    | [.raw (.pointer none)] => ⟨True, .raw (.int .i64 1), H⟩
    | [.ptr i 0] => onZ zN 96 (.raw (.int .i64 1)) H i
    | _ => no
  | .func 26 => match args with
    | [.raw (.pointer none)] => ⟨True, .tup [.raw (.int .i64 0), .raw (.int .i64 0)], H⟩
    | [.ptr i 0] => onZ zN 96 (.tup [.raw (.int .i64 0), .raw (.int .i64 0)]) H i
    | _ => no
  | .func 27 => match args with
    | [.raw (.pointer none)] => ⟨True, .raw (.bool false), H⟩
    | [.ptr i 0] => onZ zN 96 (.raw (.bool false)) H i
    | _ => no
  | f => ΓL f args H
theorem ΓV_sound (E : Addr → Option Value) : Con.Sound Try.prog E ΓV := by
  intro f args H h
  unfold ΓV at h ⊢
  split at h
  · split at h
    · exact lift0 (nil29 E _) (fun _ => rfl) rfl (fun _ => rfl) H
    · exact onZ_sound (args := [ri _]) (zero29 E _) (fun _ => rfl) rfl hwk_zC h
    · exact h.elim
  · split at h
    · exact lift0 (nil31 E _ _ _) (fun _ => rfl) rfl (fun _ => rfl) H
    · exact onZ_sound (args := [word _ _ _]) (zero31 E _ _ _) (fun _ => rfl) rfl hwk_zC h
    · exact h.elim
  · split at h
    · exact lift0 (nil33 E) (fun _ => rfl) rfl (fun _ => rfl) H
    · exact onZ_sound (args := []) (zero33 E) (fun _ => rfl) rfl hwk_zC h
    · exact h.elim
  · split at h
    · exact lift0 (nil35 E) (fun _ => rfl) rfl (fun _ => rfl) H
    · exact onZ_sound (args := []) (zero35 E) (fun _ => rfl) rfl hwk_zC h
    · exact h.elim
  · split at h
    · exact lift0 (nil37 E) (fun _ => rfl) rfl (fun _ => rfl) H
    · exact onZ_sound (args := []) (zero37 E) (fun _ => rfl) rfl hwk_zC h
    · exact h.elim
  · split at h
    · exact lift0 (nil39 E) (fun _ => rfl) rfl (fun _ => rfl) H
    · exact onZ_sound (args := []) (zero39 E) (fun _ => rfl) rfl hwk_zC h
    · exact h.elim
  · split at h
    · exact lift0 (nil17 E) (fun _ => rfl) rfl (fun _ => rfl) H
    · exact onZ_sound (args := []) (zero17 E) (fun _ => rfl) rfl hwk_zN h
    · exact h.elim
  · split at h
    · exact lift0 (nil19 E _ _ _) (fun _ => rfl) rfl (fun _ => rfl) H
    · exact onZ_sound (args := [word _ _ _]) (zero19 E _ _ _) (fun _ => rfl) rfl hwk_zN h
    · exact h.elim
  · split at h
    · exact lift0 (nil21 E) (fun _ => rfl) rfl (fun _ => rfl) H
    · exact onZ_sound (args := []) (zero21 E) (fun _ => rfl) rfl hwk_zN h
    · exact h.elim
  · split at h
    · exact lift0 (nil23 E) (fun _ => rfl) rfl (fun _ => rfl) H
    · exact onZ_sound (args := []) (zero23 E) (fun _ => rfl) rfl hwk_zN h
    · exact h.elim
  · split at h
    · exact lift0 (nil25 E) (fun _ => rfl) rfl (fun _ => rfl) H
    · exact onZ_sound (args := []) (zero25 E) (fun _ => rfl) rfl hwk_zN h
    · exact h.elim
  · split at h
    · exact lift0 (nil26 E) (fun _ => rfl) rfl (fun _ => rfl) H
    · exact onZ_sound (args := []) (zero26 E) (fun _ => rfl) rfl hwk_zN h
    · exact h.elim
  · split at h
    · exact lift0 (nil27 E) (fun _ => rfl) rfl (fun _ => rfl) H
    · exact onZ_sound (args := []) (zero27 E) (fun _ => rfl) rfl hwk_zN h
    · exact h.elim
  · exact ΓL_sound E f args H h
end Go.Proofs.Ytmnpnnegnlhemaa.Eng
