/- The reference of the command layer: rules, wait, words, a centre's functions, by the engine. -/
import Derived.Test.YtmnpnnegnlhemaaCh
namespace Go.Proofs.Ytmnpnnegnlhemaa.Eng
open Go

set_option maxRecDepth 100000 in
theorem ok57 (E : Addr → Option Value) (a b c : Int) : Ok Try.prog E 57 [ri a, ri b, ri c] [] (rb (decide (b ≤ a) && decide (a ≤ c))) [] := by
  refine ok_of_eng (pl := pl0) mixed (Γ0_sound E) Try.func57 rfl rfl (by kernel_rfl) (by simp) 100 (fun F hF => ?_)
  simp only [Try.f57, eng, litSt, pl0, srunA_nil, srunA_b, stepR, contB_mk, r0, r1, r2, regC, sop, unw, strip, sev, tg, tset, tput, undefs, needs, opNeeds, sBin, ibin, shiftOp, gb, gslot, gdst, onth, wants, sPick, List.length_cons, List.length_nil, List.cons_append, List.nil_append, true_and, and_self, or_true, implies_true, imp_self, ite_self, eq_self, Bool.false_eq_true, Bool.cond_false_right, Nat.zero_add, Nat.reduceAdd, Nat.reduceSub]
  exact hF _ _ _ ⟨trivial, by simp only [Try.f57, retP, sResults, sRes1, resK, retV, vwk, vwk1, hwk, sc, tg, List.length_nil, and_self, eq_self, Nat.le_refl]⟩

def c57 : List SV → List AB → Res
  | [.raw (.int .i64 a), .raw (.int .i64 b), .raw (.int .i64 c)], H => ⟨True, .raw (.bool (decide (b ≤ a) && decide (a ≤ c))), H⟩
  | _, _ => no
theorem c57_sound {E : Addr → Option Value} {args : List SV} {H : List AB} (h : (c57 args H).pre) : Ok Try.prog E 57 args H (c57 args H).val (c57 args H).heap := by
  unfold c57 at h ⊢
  split at h
  · exact lift0 (ok57 E _ _ _) (fun _ => rfl) rfl (fun _ => rfl) H
  · exact h.elim
def Γ57 : Con := fun f args H => match f with
  | .func 57 => c57 args H
  | _ => no
theorem Γ57_sound (E : Addr → Option Value) : Con.Sound Try.prog E Γ57 := by
  intro f args H h
  unfold Γ57 at h ⊢
  split at h
  · exact c57_sound h
  · exact h.elim

set_option maxRecDepth 100000 in
theorem ok47 (E : Addr → Option Value) (a b c : Int) : Ok Try.prog E 47 [ri a, ri b, ri c] [] (rb (decide (b ≤ a) && decide (a ≤ c))) [] := by
  refine ok_of_eng (pl := pl0) mixed (Γ57_sound E) Try.func47 rfl rfl (by kernel_rfl) (by simp) 100 (fun F hF => ?_)
  simp only [Try.f47, Γ57, c57, ri, eng, litSt, pl0, srunA_nil, srunA_b, stepR, contB_mk, r0, regC, sop, unw, strip, sev, tg, tset, tput, undefs, needs, opNeeds, sCall, List.length_cons, List.length_nil, List.cons_append, List.nil_append, List.map_cons, List.map_nil, true_and, and_self, eq_self, Nat.zero_add, Nat.reduceAdd, Nat.reduceSub, ]
  exact hF _ _ _ ⟨trivial, by simp only [Try.f47, retP, sResults, sRes1, resK, retV, vwk, vwk1, hwk, sc, tg, List.length_nil, and_self, eq_self, Nat.le_refl]⟩
theorem c47_sound {E : Addr → Option Value} {args : List SV} {H : List AB} (h : (c57 args H).pre) : Ok Try.prog E 47 args H (c57 args H).val (c57 args H).heap := by
  unfold c57 at h ⊢
  split at h
  · exact lift0 (ok47 E _ _ _) (fun _ => rfl) rfl (fun _ => rfl) H
  · exact h.elim
def Γ47 : Con := fun f args H => match f with
  | .func 47 => c57 args H
  | _ => no
theorem Γ47_sound (E : Addr → Option Value) : Con.Sound Try.prog E Γ47 := by
  intro f args H h
  unfold Γ47 at h ⊢
  split at h
  · exact c47_sound h
  · exact h.elim

set_option maxRecDepth 100000 in
theorem ok15 (E : Addr → Option Value) (t s : Int) : Ok Try.prog E 15 [ri t, ri s] [] (rb (rules t s)) [] := by
  refine ok_of_eng (pl := pl0) mixed (Γ47_sound E) Try.func15 rfl rfl (by kernel_rfl) (by simp) 100 (fun F hF => ?_)
  simp only [Try.f15, Γ47, c57, ri, eng, litSt, pl0, srunA_nil, srunA_b, stepR, contB_mk, r0, r1, r2, regC, sop, unw, strip, sev, tg, tset, tput, undefs, needs, opNeeds, gb, gslot, gdst, onth, wants, sPick, sCall, List.length_cons, List.length_nil, List.cons_append, List.nil_append, List.map_cons, List.map_nil, true_and, and_self, implies_true, imp_self, ite_self, eq_self, Bool.cond_false_right, Nat.zero_add, Nat.reduceAdd, Nat.reduceSub, ]
  exact hF _ _ _ ⟨trivial, by simp only [Try.f15, rules, rb, retP, sResults, sRes1, resK, retV, vwk, vwk1, hwk, sc, tg, List.length_nil, and_self, eq_self, Nat.le_refl]⟩
def c15 : List SV → List AB → Res
  | [.raw (.int .i64 t), .raw (.int .i64 s)], H => ⟨True, .raw (.bool (rules t s)), H⟩
  | _, _ => no
theorem c15_sound {E : Addr → Option Value} {args : List SV} {H : List AB} (h : (c15 args H).pre) : Ok Try.prog E 15 args H (c15 args H).val (c15 args H).heap := by
  unfold c15 at h ⊢
  split at h
  · exact lift0 (ok15 E _ _) (fun _ => rfl) rfl (fun _ => rfl) H
  · exact h.elim
def Γ15 : Con := fun f args H => match f with
  | .func 15 => c15 args H
  | _ => no
theorem Γ15_sound (E : Addr → Option Value) : Con.Sound Try.prog E Γ15 := by
  intro f args H h
  unfold Γ15 at h ⊢
  split at h
  · exact c15_sound h
  · exact h.elim

def wt (t s : Int) : Int := match rules t s with | true => wait t s | false => 0
def wte (t s : Int) : Int := match rules t s with | true => 0 | false => 4
set_option maxRecDepth 100000 in
theorem ok12 (E : Addr → Option Value) (t s : Int) : Ok Try.prog E 12 [ri t, ri s] [] (.tup [ri (wt t s), ri (wte t s)]) [] := by
  refine ok_of_eng (pl := pl0) mixed (Γ15_sound E) Try.func12 rfl rfl (by kernel_rfl) (by simp) 100 (fun F hF => ?_)
  cases hr : rules t s with
  | true =>
    simp only [Try.f12, Γ15, c15, ri, hr, eng, litSt, pl0, srunA_nil, srunA_b, stepR, contB_mk, r0, regC, sop, unw, strip, sev, tg, tset, tput, undefs, needs, opNeeds, sBin, ibin, shiftOp, selC, sCall, sUn, List.length_cons, List.length_nil, List.cons_append, List.nil_append, List.map_cons, List.map_nil, true_and, and_self, or_true, not_false_eq_true, eq_self, ne_eq, Bool.false_eq_true, Bool.not_true, Nat.zero_add, Nat.reduceAdd, Nat.reduceSub, Int.reduceEq]
    refine hF _ _ _ ⟨trivial, ?_⟩
    simp only [Try.f12, wt, wte, hr, ri, retP, sResults, sRes1, resK, retV, vwk, vwks, vwk1, hwk, sc, scs, tg, List.length_nil, true_and, and_true, and_self, eq_self, Bool.and_self, Nat.le_refl, SV.raw.injEq, Value.int.injEq]
    simp [rules] at hr
    have q0 : IntKind.i64.wrap (1000 + s) = 1000 + s := w64 (by omega) (by omega)
    have q1 : 0 ≤ t * (1000 + s) := Int.mul_nonneg (by omega) (by omega)
    have q2 : t * (1000 + s) ≤ 100000 * 2000 := Int.mul_le_mul (by omega) (by omega) (by omega) (by omega)
    have q3 : IntKind.i64.wrap (t * (1000 + s)) = t * (1000 + s) := w64 (by omega) (by omega)
    have q4 : IntKind.i64.wrap (t * (1000 + s) + 999) = t * (1000 + s) + 999 := w64 (by omega) (by omega)
    have q6 : (t * (1000 + s) + 999).tdiv 1000 = (t * (1000 + s) + 999) / 1000 := Int.tdiv_eq_ediv_of_nonneg (by omega)
    have q7 : IntKind.i64.wrap ((t * (1000 + s) + 999) / 1000) = (t * (1000 + s) + 999) / 1000 := w64 (by omega) (by omega)
    have q8 : IntKind.i64.wrap ((t * (1000 + s) + 999) / 1000 + 1) = (t * (1000 + s) + 999) / 1000 + 1 := w64 (by omega) (by omega)
    rw [q0, q3, q4, q6, q7, q8]
    rfl
  | false =>
    simp only [Try.f12, Γ15, c15, ri, hr, eng, litSt, pl0, srunA_nil, srunA_b, stepR, contB_mk, r0, regC, sop, unw, strip, sev, tg, tset, tput, undefs, needs, opNeeds, selC, sCall, sUn, List.length_cons, List.length_nil, List.cons_append, List.nil_append, List.map_cons, List.map_nil, true_and, and_self, eq_self, Bool.not_false, Nat.zero_add, Nat.reduceAdd, Nat.reduceSub]
    exact hF _ _ _ ⟨trivial, by simp only [Try.f12, wt, wte, hr, ri, retP, sResults, sRes1, resK, retV, vwk, vwks, vwk1, hwk, sc, scs, tg, List.length_nil, and_self, eq_self, Bool.and_self, Nat.le_refl]⟩
def c12 : List SV → List AB → Res
  | [.raw (.int .i64 t), .raw (.int .i64 s)], H => ⟨True, .tup [.raw (.int .i64 (wt t s)), .raw (.int .i64 (wte t s))], H⟩
  | _, _ => no
theorem c12_sound {E : Addr → Option Value} {args : List SV} {H : List AB} (h : (c12 args H).pre) : Ok Try.prog E 12 args H (c12 args H).val (c12 args H).heap := by
  unfold c12 at h ⊢
  split at h
  · exact lift0 (ok12 E _ _) (fun _ => rfl) rfl (fun _ => rfl) H
  · exact h.elim
/-- The program's own Wait, in the same words. -/
theorem c11w_sound {E : Addr → Option Value} {args : List SV} {H : List AB} (h : (c12 args H).pre) : Ok Try.prog E 11 args H (c12 args H).val (c12 args H).heap := by
  unfold c12 at h ⊢
  split at h
  · rename_i H0 t s
    have := lift0 (ok11 E t s) (fun _ => rfl) rfl (fun _ => rfl) H
    unfold wt wte
    cases hr : rules t s with
    | true => simpa only [hr, if_true, ri] using this
    | false => simpa only [hr, Bool.false_eq_true, if_false, ri] using this
  · exact h.elim

set_option maxRecDepth 100000 in
theorem ok52 (E : Addr → Option Value) (k n m : Int) : Ok Try.prog E 52 [word k n m] [] (rb (valid k n m)) [] := by
  refine ok_of_eng (pl := pl0) mixed (Γ47_sound E) Try.func52 rfl rfl (by kernel_rfl) (by simp) 100 (fun F hF => ?_)
  simp only [Try.f52, Γ47, c57, word, ri, eng, litSt, pl0, srunA_nil, srunA_b, stepR, contB_mk, r0, r1, r2, regC, sop, unw, strip, sev, tg, tset, tput, undefs, needs, opNeeds, gb, gslot, gdst, onth, wants, sPick, sLoad, sField, sBox, sCall, cellsAt, hget, hd1, vcells, one, holeAt, idxAt, pushAt, List.length_cons, List.length_nil, List.cons_append, List.nil_append, List.map_cons, List.map_nil, List.take_succ_cons, List.take_zero, List.take_nil, List.drop_succ_cons, List.drop_zero, List.all_cons, List.all_nil, true_and, and_self, implies_true, imp_self, ite_self, not_false_eq_true, eq_self, ne_eq, Bool.and_self, Bool.cond_false_right, Nat.zero_add, Nat.add_zero, Nat.le_refl, reduceCtorEq, Value.oneCell', Nat.reduceAdd, Nat.reduceSub, Nat.reduceLeDiff, tk3, ta3, tf41_0, tf41_1, tf41_2]
  exact hF _ _ _ ⟨trivial, by simp only [Try.f52, rb, valid, retP, sResults, sRes1, resK, retV, vwk, vwk1, hwk, sc, tg, List.length_nil, and_self, eq_self, Nat.le_refl]⟩
theorem c52_sound {E : Addr → Option Value} {args : List SV} {H : List AB} (h : (c50 args H).pre) : Ok Try.prog E 52 args H (c50 args H).val (c50 args H).heap := by
  unfold c50 at h ⊢
  split at h
  · exact lift0 (ok52 E _ _ _) (fun _ => rfl) rfl (fun _ => rfl) H
  · exact h.elim

/-! ### A centre of the reference -/
structure RC where
  nodes : Int
  term : Int
  slow : Int
  clock : Int
  wanted : Int
  g0 : Int
  g1 : Int
  g2 : Int
  g3 : Int
  g4 : Int
  g5 : Int
  g6 : Int
  g7 : Int
  g8 : Int
  lease : Int
  number : Int
  fr : Int

def eRL (c : RC) : List SV := [ri c.nodes, ri c.term, ri c.slow, ri c.clock, ri c.wanted, ri c.g0, ri c.g1, ri c.g2, ri c.g3, ri c.g4, ri c.g5, ri c.g6, ri c.g7, ri c.g8, ri c.lease, ri c.number, ri c.fr]
def decR (l : List SV) : RC :=
  ⟨ivn (tg l 0), ivn (tg l 1), ivn (tg l 2), ivn (tg l 3), ivn (tg l 4), ivn (tg l 5), ivn (tg l 6), ivn (tg l 7), ivn (tg l 8), ivn (tg l 9), ivn (tg l 10), ivn (tg l 11), ivn (tg l 12), ivn (tg l 13), ivn (tg l 14), ivn (tg l 15), ivn (tg l 16)⟩

def RC.at (c : RC) (n : Nat) : Int := match n with
  | 0 => c.g0 | 1 => c.g1 | 2 => c.g2 | 3 => c.g3 | 4 => c.g4 | 5 => c.g5 | 6 => c.g6 | 7 => c.g7 | 8 => c.g8 | _ => 0
def RC.put (c : RC) (n : Nat) (m : Int) : RC := match n with
  | 0 => { c with g0 := m } | 1 => { c with g1 := m } | 2 => { c with g2 := m } | 3 => { c with g3 := m } | 4 => { c with g4 := m } | 5 => { c with g5 := m } | 6 => { c with g6 := m } | 7 => { c with g7 := m } | 8 => { c with g8 := m } | _ => c

def onR (f : RC → SV) (l : List SV) (H : List AB) : Res := ⟨l = eRL (decR l), f (decR l), H⟩
theorem onR_sound {E : Addr → Option Value} {fn : FuncId} {args : List SV} {f : RC → SV} {l : List SV} {H : List AB} (hok : ∀ c, Ok Try.prog E fn (.agg (eRL c) :: args) [] (f c) [])
    (ha : ∀ τ : Nat → Nat, rens τ args = args) (hs : scs 0 args = true) (hv : ∀ c (τ : Nat → Nat), ren τ (f c) = f c) (h : (onR f l H).pre) : Ok Try.prog E fn (.agg l :: args) H (onR f l H).val (onR f l H).heap := by
  change l = eRL (decR l) at h
  have := lift0 (hok (decR l)) (fun τ => by simp only [rens, ren, ha]; rfl) (by simp only [scs, sc, hs]; rfl) (hv _) H
  rwa [← h] at this

def ΓR : Con := fun f args H => match f with
  | .func 47 => c57 args H
  | .func 52 => c50 args H
  | .func 12 => c12 args H
  | _ => no
theorem ΓR_sound (E : Addr → Option Value) : Con.Sound Try.prog E ΓR := by
  intro f args H h
  unfold ΓR at h ⊢
  split at h
  · exact c47_sound h
  · exact c52_sound h
  · exact c12_sound h
  · exact h.elim

def RC.inW (c : RC) (k : Int) : Bool := decide (0 ≤ k) && decide (k ≤ c.nodes)
def RC.want (c : RC) (k : Int) : RC := match c.inW k with | true => { c with wanted := k } | false => c
def RC.wantE (c : RC) (k : Int) : Int := match c.inW k with | true => 0 | false => 7
def pl30 : Nat → Plan
  | _ => []
set_option maxRecDepth 100000 in
theorem ok30 (E : Addr → Option Value) (c : RC) (k : Int) : Ok Try.prog E 30 [.agg (eRL c), ri k] [] (.tup [.agg (eRL (c.want k)), ri (c.wantE k)]) [] := by
  refine ok_of_eng (pl := pl30) mixed (ΓR_sound E) Try.func30 rfl rfl (by kernel_rfl) (by simp) 100 (fun F hF => ?_)
  cases h : c.inW k with
  | true =>
    have h' : (decide (0 ≤ k) && decide (k ≤ c.nodes)) = true := h
    simp only [Try.f30, pl30, ΓR, c57, eRL, h', ri, eng, litSt, srunA_nil, srunA_b, stepR, contB_mk, r0, regC, sop, unw, strip, sev, tg, tset, tput, undefs, needs, opNeeds, selC, sLoad, sStore, sField, sNew, sAlloc, sBox, sCall, sUn, cellsAt, hget, hset, hd1, vcells, one, splice, holeAt, idxAt, pushAt, List.length_cons, List.length_nil, List.cons_append, List.nil_append, List.append_nil, List.map_cons, List.map_nil, List.take_succ_cons, List.take_zero, List.take_nil, List.drop_succ_cons, List.drop_zero, List.drop_nil, List.all_cons, List.all_nil, true_and, and_self, not_false_eq_true, eq_self, ne_eq, Bool.not_true, Bool.and_self, Nat.zero_add, Nat.add_zero, Nat.le_refl, reduceCtorEq, Value.oneCell', Nat.reduceAdd, Nat.reduceSub, Nat.reduceLeDiff, tk3, ts3, ta3, tk59, ts59, ta59, tz59, tf59_0, tf59_4]
    exact hF _ _ _ ⟨trivial, by simp only [Try.f30, eRL, RC.want, RC.wantE, h, ri, retP, sResults, sRes1, resK, retV, vwk, vwks, vwk1, hwk, sc, scs, tg, sLoad, cellsAt, hget, List.length_cons, List.length_nil, List.take_succ_cons, List.take_nil, List.drop_zero, and_self, eq_self, Bool.and_self, Nat.zero_add, Nat.le_refl, Nat.reduceAdd, tk59, ts59, ta59]⟩
  | false =>
    have h' : (decide (0 ≤ k) && decide (k ≤ c.nodes)) = false := h
    simp only [Try.f30, pl30, ΓR, c57, eRL, h', ri, eng, litSt, srunA_nil, srunA_b, stepR, contB_mk, r0, regC, sop, unw, strip, sev, tg, tset, tput, undefs, needs, opNeeds, selC, sLoad, sStore, sField, sNew, sAlloc, sBox, sCall, sUn, cellsAt, hget, hset, hd1, vcells, one, splice, holeAt, idxAt, pushAt, List.length_cons, List.length_nil, List.cons_append, List.nil_append, List.append_nil, List.map_cons, List.map_nil, List.take_succ_cons, List.take_zero, List.take_nil, List.drop_succ_cons, List.drop_zero, List.drop_nil, List.all_cons, List.all_nil, true_and, and_self, not_false_eq_true, eq_self, ne_eq, Bool.not_false, Bool.and_self, Nat.zero_add, Nat.add_zero, Nat.le_refl, reduceCtorEq, Value.oneCell', Nat.reduceAdd, Nat.reduceSub, Nat.reduceLeDiff, tk3, ta3, tk59, ts59, ta59, tz59, tf59_0]
    exact hF _ _ _ ⟨trivial, by simp only [Try.f30, eRL, RC.want, RC.wantE, h, ri, retP, sResults, sRes1, resK, retV, vwk, vwks, vwk1, hwk, sc, scs, tg, sLoad, cellsAt, hget, List.length_cons, List.length_nil, List.take_succ_cons, List.take_nil, List.drop_zero, and_self, eq_self, Bool.and_self, Nat.zero_add, Nat.le_refl, Nat.reduceAdd, tk59, ts59, ta59]⟩

def RC.brk (c : RC) : RC := { c with lease := -1, number := 0, fr := c.clock }
def pl34 : Nat → Plan
  | _ => []
set_option maxRecDepth 100000 in
theorem ok34 (E : Addr → Option Value) (c : RC) : Ok Try.prog E 34 [.agg (eRL c)] [] (.agg (eRL c.brk)) [] := by
  refine ok_of_eng (pl := pl34) mixed (ΓR_sound E) Try.func34 rfl rfl (by kernel_rfl) (by simp) 100 (fun F hF => ?_)
  simp only [Try.f34, pl34, eRL, ri, eng, litSt, srunA_nil, srunA_b, stepR, contB_mk, r0, regC, sop, unw, strip, sev, tg, tset, tput, undefs, needs, opNeeds, sLoad, sStore, sField, sNew, sAlloc, sBox, cellsAt, hget, hset, hd1, vcells, one, splice, holeAt, idxAt, pushAt, List.length_cons, List.length_nil, List.cons_append, List.nil_append, List.append_nil, List.map_cons, List.map_nil, List.take_succ_cons, List.take_zero, List.take_nil, List.drop_succ_cons, List.drop_zero, List.drop_nil, List.all_cons, List.all_nil, true_and, and_self, not_false_eq_true, eq_self, ne_eq, Bool.and_self, Nat.zero_add, Nat.le_refl, reduceCtorEq, Value.oneCell', Nat.reduceAdd, Nat.reduceSub, Nat.reduceLeDiff, Int.reduceNeg, tk3, ts3, ta3, tk59, ts59, ta59, tz59, tf59_3, tf59_6, tf59_7, tf59_8]
  exact hF _ _ _ ⟨trivial, by simp only [Try.f34, eRL, RC.brk, ri, retP, sResults, sRes1, resK, retV, vwk, vwks, vwk1, hwk, sc, scs, tg, sLoad, cellsAt, hget, List.length_cons, List.length_nil, List.take_succ_cons, List.take_nil, List.drop_zero, and_self, eq_self, Bool.and_self, Nat.zero_add, Nat.le_refl, Nat.reduceAdd, Int.reduceNeg, tk59, ts59, ta59]⟩

def RC.out (c : RC) : Bool := !decide (c.lease = 0) && decide (IntKind.i64.wrap (c.fr + wt c.term c.slow) ≤ IntKind.i64.wrap (c.clock + 1))
def RC.tick (c : RC) : RC := match c.out with | true => { c with clock := IntKind.i64.wrap (c.clock + 1), lease := 0 } | false => { c with clock := IntKind.i64.wrap (c.clock + 1) }
def pl36 : Nat → Plan
  | _ => []

set_option maxRecDepth 100000 in
theorem ok36 (E : Addr → Option Value) (c : RC) : Ok Try.prog E 36 [.agg (eRL c)] [] (.agg (eRL c.tick)) [] := by
  refine ok_of_eng (pl := pl36) mixed (ΓR_sound E) Try.func36 rfl rfl (by kernel_rfl) (by simp) 100 (fun F hF => ?_)
  cases h : c.out with
  | true =>
    have h' : (!decide (c.lease = 0) && decide (IntKind.i64.wrap (c.fr + wt c.term c.slow) ≤ IntKind.i64.wrap (c.clock + 1))) = true := h
    simp only [Try.f36, pl36, ΓR, c12, eRL, h', ri, eng, litSt, srunA_nil, srunA_b, stepR, contB_mk, r0_mk, r1_mk, r2_mk, regC_mk, sop, unw, strip, sev, tg, tset, tput, undefs, needs, opNeeds, sBin, ibin, shiftOp, gb, gslot, gdst, onth, wants, sPick, selC, sLoad, sStore, sExtract, sField, sNew, sAlloc, sBox, sCall, cellsAt, hget, hset, hd1, vcells, one, splice, holeAt, idxAt, pushAt, List.length_cons, List.length_nil, List.cons_append, List.nil_append, List.append_nil, List.map_cons, List.map_nil, List.take_succ_cons, List.take_zero, List.take_nil, List.drop_succ_cons, List.drop_zero, List.drop_nil, List.all_cons, List.all_nil, List.getElem?_cons_zero, List.getElem?_cons_succ, true_and, and_true, and_self, or_true, implies_true, forall_const, imp_self, ite_self, not_false_eq_true, eq_self, ne_eq, Bool.false_eq_true, Bool.and_self, Bool.cond_false_right, Nat.zero_add, Nat.le_refl, reduceCtorEq, Value.oneCell', Nat.reduceAdd, Nat.reduceSub, Nat.reduceLeDiff, tk3, ts3, ta3, tk59, ts59, ta59, tz59, tf59_1, tf59_2, tf59_3, tf59_6, tf59_8]
    exact hF _ _ _ ⟨trivial, by simp only [Try.f36, eRL, RC.tick, h, ri, retP, sResults, sRes1, resK, retV, vwk, vwks, vwk1, hwk, sc, scs, tg, sLoad, cellsAt, hget, List.length_cons, List.length_nil, List.take_succ_cons, List.take_nil, List.drop_zero, and_self, eq_self, Bool.and_self, Nat.zero_add, Nat.le_refl, Nat.reduceAdd, tk59, ts59, ta59]⟩
  | false =>
    have h' : (!decide (c.lease = 0) && decide (IntKind.i64.wrap (c.fr + wt c.term c.slow) ≤ IntKind.i64.wrap (c.clock + 1))) = false := h
    simp only [Try.f36, pl36, ΓR, c12, eRL, h', ri, eng, litSt, srunA_nil, srunA_b, stepR, contB_mk, r0_mk, r1_mk, r2_mk, regC_mk, sop, unw, strip, sev, tg, tset, tput, undefs, needs, opNeeds, sBin, ibin, shiftOp, gb, gslot, gdst, onth, wants, sPick, selC, sLoad, sStore, sExtract, sField, sNew, sAlloc, sBox, sCall, cellsAt, hget, hset, hd1, vcells, one, splice, holeAt, idxAt, pushAt, List.length_cons, List.length_nil, List.cons_append, List.nil_append, List.append_nil, List.map_cons, List.map_nil, List.take_succ_cons, List.take_zero, List.take_nil, List.drop_succ_cons, List.drop_zero, List.drop_nil, List.all_cons, List.all_nil, List.getElem?_cons_zero, List.getElem?_cons_succ, true_and, and_true, and_self, or_true, implies_true, forall_const, imp_self, ite_self, not_false_eq_true, eq_self, ne_eq, Bool.false_eq_true, Bool.and_self, Bool.cond_false_right, Nat.zero_add, Nat.le_refl, reduceCtorEq, Value.oneCell', Nat.reduceAdd, Nat.reduceSub, Nat.reduceLeDiff, tk3, ts3, ta3, tk59, ts59, ta59, tz59, tf59_1, tf59_2, tf59_3, tf59_6, tf59_8]
    exact hF _ _ _ ⟨trivial, by simp only [Try.f36, eRL, RC.tick, h, ri, retP, sResults, sRes1, resK, retV, vwk, vwks, vwk1, hwk, sc, scs, tg, sLoad, cellsAt, hget, List.length_cons, List.length_nil, List.take_succ_cons, List.take_nil, List.drop_zero, and_self, eq_self, Bool.and_self, Nat.zero_add, Nat.le_refl, Nat.reduceAdd, tk59, ts59, ta59]⟩

def RC.free (c : RC) : Bool := decide (c.lease = 0)
def RC.since (c : RC) : Int := match c.free with | true => 0 | false => c.fr
def pl38 : Nat → Plan
  | _ => []
set_option maxRecDepth 100000 in
theorem ok38 (E : Addr → Option Value) (c : RC) : Ok Try.prog E 38 [.agg (eRL c)] [] (.tup [ri c.lease, ri c.since]) [] := by
  refine ok_of_eng (pl := pl38) mixed (ΓR_sound E) Try.func38 rfl rfl (by kernel_rfl) (by simp) 100 (fun F hF => ?_)
  cases h : c.free with
  | true =>
    have h' : decide (c.lease = 0) = true := h
    have e : c.lease = 0 := by simpa using h'
    simp only [Try.f38, pl38, eRL, h', ri, eng, litSt, srunA_nil, srunA_b, stepR, contB_mk, r0, regC, sop, unw, strip, sev, tg, tset, tput, undefs, needs, opNeeds, sBin, ibin, shiftOp, selC, sLoad, sField, sBox, cellsAt, hget, hd1, vcells, one, holeAt, idxAt, pushAt, List.length_cons, List.length_nil, List.cons_append, List.nil_append, List.take_succ_cons, List.take_zero, List.drop_succ_cons, List.drop_zero, List.all_cons, List.all_nil, true_and, and_self, or_true, not_false_eq_true, eq_self, ne_eq, Bool.false_eq_true, Bool.and_self, Nat.zero_add, reduceCtorEq, Value.oneCell', Nat.reduceAdd, Nat.reduceSub, Nat.reduceLeDiff, tk3, ta3, tf59_6]
    exact hF _ _ _ ⟨trivial, by simp only [Try.f38, RC.since, h, e, ri, retP, sResults, sRes1, resK, retV, vwk, vwks, vwk1, hwk, sc, scs, tg, List.length_nil, and_self, eq_self, Bool.and_self, Nat.le_refl]⟩
  | false =>
    have h' : decide (c.lease = 0) = false := h
    simp only [Try.f38, pl38, eRL, h', ri, eng, litSt, srunA_nil, srunA_b, stepR, contB_mk, r0, regC, sop, unw, strip, sev, tg, tset, tput, undefs, needs, opNeeds, sBin, ibin, shiftOp, gdst, onth, selC, sLoad, sField, sBox, cellsAt, hget, hd1, vcells, one, holeAt, idxAt, pushAt, drawSt, preL, chkL, stp, nxtB_mk, pref_0, pref_b, allocOp, holes, List.length_cons, List.length_nil, List.cons_append, List.nil_append, List.append_nil, List.take_succ_cons, List.take_zero, List.take_nil, List.drop_succ_cons, List.drop_zero, List.all_cons, List.all_nil, true_and, and_self, or_true, not_false_eq_true, eq_self, ne_eq, Bool.false_eq_true, Bool.and_self, Nat.zero_add, Nat.le_refl, reduceCtorEq, Value.oneCell', Nat.reduceAdd, Nat.reduceSub, Nat.reduceLeDiff, tk3, ta3, tf59_6, tf59_8]
    exact hF _ _ _ ⟨trivial, by simp only [Try.f38, RC.since, h, ri, retP, sResults, sRes1, resK, retV, vwk, vwks, vwk1, hwk, sc, scs, tg, List.length_nil, and_self, eq_self, Bool.and_self, Nat.le_refl]⟩

end Go.Proofs.Ytmnpnnegnlhemaa.Eng
