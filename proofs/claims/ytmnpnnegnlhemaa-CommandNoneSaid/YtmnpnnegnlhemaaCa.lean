/- The command package's small functions, by the engine. -/
import Derived.Test.YtmnpnnegnlhemaaFt
namespace Go.Proofs.Ytmnpnnegnlhemaa.Eng
open Go

abbrev ri (n : Int) : SV := .raw (.int .i64 n)
abbrev rb (b : Bool) : SV := .raw (.bool b)

theorem w64 {n : Int} (h1 : -9223372036854775808 ≤ n) (h2 : n ≤ 9223372036854775807) : IntKind.i64.wrap n = n := by
  rw [IntKind.wrap_i64]; omega

theorem lift0 {P : Program} {E : Addr → Option Value} {f : FuncId} {args : List SV} {v : SV} (h : Ok P E f args [] v []) (ha : ∀ τ : Nat → Nat, rens τ args = args) (hs : scs 0 args = true) (hv : ∀ τ : Nat → Nat, ren τ v = v) (H : List AB) : Ok P E f args H v H := by
  have := h.frame H [] (by simp [subH]) (by simp) hs (by simp [hwk])
  rw [ha, hv] at this
  simpa [updH] using this

def Γ0 : Con := fun _ _ _ => no
theorem Γ0_sound (E : Addr → Option Value) : Con.Sound Try.prog E Γ0 := fun _ _ _ h => h.elim

set_option maxRecDepth 100000 in
theorem ok44 (E : Addr → Option Value) (a b c : Int) : Ok Try.prog E 44 [ri a, ri b, ri c] [] (rb (decide (b ≤ a) && decide (a ≤ c))) [] := by
  refine ok_of_eng (pl := pl0) mixed (Γ0_sound E) Try.func44 rfl rfl (by kernel_rfl) (by simp) 100 (fun F hF => ?_)
  simp only [Try.f44, eng, litSt, pl0, srunA_nil, srunA_b, stepR, contB_mk, r0, r1, r2, regC, sop, unw, strip, sev, tg, tset, tput, undefs, needs, opNeeds, sBin, ibin, shiftOp, gb, gslot, gdst, onth, wants, sPick, List.length_cons, List.length_nil, List.cons_append, List.nil_append, true_and, and_self, or_true, implies_true, imp_self, ite_self, eq_self, Bool.false_eq_true, Bool.cond_false_right, Nat.zero_add, Nat.reduceAdd, Nat.reduceSub]
  exact hF _ _ _ ⟨trivial, by simp only [Try.f44, retP, sResults, sRes1, resK, retV, vwk, vwk1, hwk, sc, tg, List.length_nil, and_self, eq_self, Nat.le_refl]⟩

def c44 : List SV → List AB → Res
  | [.raw (.int .i64 a), .raw (.int .i64 b), .raw (.int .i64 c)], H => ⟨True, .raw (.bool (decide (b ≤ a) && decide (a ≤ c))), H⟩
  | _, _ => no

theorem c44_sound {E : Addr → Option Value} {args : List SV} {H : List AB} (h : (c44 args H).pre) : Ok Try.prog E 44 args H (c44 args H).val (c44 args H).heap := by
  unfold c44 at h ⊢
  split at h
  · exact lift0 (ok44 E _ _ _) (fun _ => rfl) rfl (fun _ => rfl) H
  · exact h.elim

def Γ1 : Con := fun f args H => match f with
  | .func 44 => c44 args H
  | _ => no
theorem Γ1_sound (E : Addr → Option Value) : Con.Sound Try.prog E Γ1 := by
  intro f args H h
  unfold Γ1 at h ⊢
  split at h
  · exact c44_sound h
  · exact h.elim

/-! ### Wait, valid -/
def wait (t s : Int) : Int := (t * (1000 + s) + 999) / 1000 + 1
def rules (t s : Int) : Bool := (decide (1 ≤ t) && decide (t ≤ 100000)) && (decide (0 ≤ s) && decide (s ≤ 1000))

set_option maxRecDepth 100000 in
theorem ok11 (E : Addr → Option Value) (t s : Int) : Ok Try.prog E 11 [ri t, ri s] [] (.tup [ri (if rules t s then wait t s else 0), ri (if rules t s then 0 else 4)]) [] := by
  refine ok_of_eng (pl := pl0) mixed (Γ1_sound E) Try.func11 rfl rfl (by kernel_rfl) (by simp) 100 (fun F hF => ?_)
  cases hr : rules t s with
  | true =>
    have h1 : (decide (1 ≤ t) && decide (t ≤ 100000)) = true := by simp [rules] at hr ⊢; omega
    have h2 : (decide (0 ≤ s) && decide (s ≤ 1000)) = true := by simp [rules] at hr ⊢; omega
    simp only [Try.f11, Γ1, c44, ri, h1, h2, eng, litSt, pl0, srunA_nil, srunA_b, stepR, contB_mk, r0, r1, r2, regC, sop, unw, strip, sev, tg, tset, tput, undefs, needs, opNeeds, sBin, ibin, shiftOp, gb, gslot, gdst, onth, wants, sPick, selC, sCall, sUn, List.length_cons, List.length_nil, List.cons_append, List.nil_append, List.map_cons, List.map_nil, true_and, and_self, or_true, implies_true, not_false_eq_true, eq_self, ne_eq, Bool.false_eq_true, Bool.not_true, Bool.not_false, Bool.cond_false, Nat.zero_add, ↓reduceIte, Nat.reduceAdd, Nat.reduceSub, Int.reduceEq]
    refine hF _ _ _ ⟨trivial, ?_⟩
    simp only [Try.f11, hr, ri, retP, sResults, sRes1, resK, retV, vwk, vwks, vwk1, hwk, sc, scs, tg, List.length_nil, true_and, and_true, and_self, eq_self, Bool.and_self, Nat.le_refl, SV.raw.injEq, Value.int.injEq, ↓reduceIte]
    simp [rules] at hr
    have q0 : IntKind.i64.wrap (1000 + s) = 1000 + s := w64 (by omega) (by omega)
    have q1 : 0 ≤ t * (1000 + s) := Int.mul_nonneg (by omega) (by omega)
    have q2 : t * (1000 + s) ≤ 100000 * 2000 := Int.mul_le_mul (by omega) (by omega) (by omega) (by omega)
    have q3 : IntKind.i64.wrap (t * (1000 + s)) = t * (1000 + s) := w64 (by omega) (by omega)
    have q4 : IntKind.i64.wrap (t * (1000 + s) + 1000) = t * (1000 + s) + 1000 := w64 (by omega) (by omega)
    have q5 : IntKind.i64.wrap (t * (1000 + s) + 1000 - 1) = t * (1000 + s) + 999 := by rw [w64 (by omega) (by omega)]; omega
    have q6 : (t * (1000 + s) + 999).tdiv 1000 = (t * (1000 + s) + 999) / 1000 := Int.tdiv_eq_ediv_of_nonneg (by omega)
    have q7 : IntKind.i64.wrap ((t * (1000 + s) + 999) / 1000) = (t * (1000 + s) + 999) / 1000 := w64 (by omega) (by omega)
    have q8 : IntKind.i64.wrap ((t * (1000 + s) + 999) / 1000 + 1) = (t * (1000 + s) + 999) / 1000 + 1 := w64 (by omega) (by omega)
    rw [q0, q3, q4, q5, q6, q7, q8]
    rfl
  | false =>
    cases h1 : (decide (1 ≤ t) && decide (t ≤ 100000)) with
    | true =>
      have h2 : (decide (0 ≤ s) && decide (s ≤ 1000)) = false := by rw [rules, h1] at hr; simpa using hr
      simp only [Try.f11, Γ1, c44, ri, h1, h2, eng, litSt, pl0, srunA_nil, srunA_b, stepR, contB_mk, r0, r1, r2, regC, sop, unw, strip, sev, tg, tset, tput, undefs, needs, opNeeds, gb, gslot, gdst, onth, wants, sPick, selC, sCall, sUn, List.length_cons, List.length_nil, List.cons_append, List.nil_append, List.map_cons, List.map_nil, true_and, and_self, implies_true, eq_self, Bool.false_eq_true, Bool.not_true, Bool.not_false, Bool.cond_false, Nat.zero_add, ↓reduceIte, Nat.reduceAdd, Nat.reduceSub]
      exact hF _ _ _ ⟨trivial, by simp only [Try.f11, hr, ri, retP, sResults, sRes1, resK, retV, vwk, vwks, vwk1, hwk, sc, scs, tg, List.length_nil, and_self, eq_self, Bool.false_eq_true, Bool.and_self, Nat.le_refl, ↓reduceIte]⟩
    | false =>
      simp only [Try.f11, Γ1, c44, ri, h1, eng, litSt, pl0, srunA_nil, srunA_b, stepR, contB_mk, r0, r1, r2, regC, sop, unw, strip, sev, tg, tset, tput, undefs, needs, opNeeds, gb, gslot, gdst, onth, wants, sPick, selC, sCall, sUn, List.length_cons, List.length_nil, List.cons_append, List.nil_append, List.map_cons, List.map_nil, true_and, and_self, implies_true, imp_self, eq_self, Bool.true_eq_false, Bool.false_eq_true, Bool.not_true, Bool.not_false, Bool.cond_true, Nat.zero_add, ↓reduceIte, Nat.reduceAdd, Nat.reduceSub]
      exact hF _ _ _ ⟨trivial, by simp only [Try.f11, hr, ri, retP, sResults, sRes1, resK, retV, vwk, vwks, vwk1, hwk, sc, scs, tg, List.length_nil, and_self, eq_self, Bool.false_eq_true, Bool.and_self, Nat.le_refl, ↓reduceIte]⟩

def c11 : List SV → List AB → Res
  | [.raw (.int .i64 t), .raw (.int .i64 s)], H => ⟨True, .tup [.raw (.int .i64 (if rules t s then wait t s else 0)), .raw (.int .i64 (if rules t s then 0 else 4))], H⟩
  | _, _ => no

theorem c11_sound {E : Addr → Option Value} {args : List SV} {H : List AB} (h : (c11 args H).pre) : Ok Try.prog E 11 args H (c11 args H).val (c11 args H).heap := by
  unfold c11 at h ⊢
  split at h
  · exact lift0 (ok11 E _ _) (fun _ => rfl) rfl (fun _ => rfl) H
  · exact h.elim

def valid (k n m : Int) : Bool := (decide (1 ≤ k) && decide (k ≤ 3)) && (decide (1 ≤ n) && decide (n ≤ 8)) && (decide (1 ≤ m) && decide (m ≤ 1099511627776))

set_option maxRecDepth 100000 in
theorem ok50 (E : Addr → Option Value) (k n m : Int) : Ok Try.prog E 50 [.agg [ri k, ri n, ri m]] [] (rb (valid k n m)) [] := by
  refine ok_of_eng (pl := pl0) mixed (Γ1_sound E) Try.func50 rfl rfl (by kernel_rfl) (by simp) 100 (fun F hF => ?_)
  simp only [Try.f50, Γ1, c44, ri, eng, litSt, pl0, srunA_nil, srunA_b, stepR, contB_mk, r0, r1, r2, regC, sop, unw, strip, sev, tg, tset, tput, undefs, needs, opNeeds, gb, gslot, gdst, onth, wants, sPick, sLoad, sField, sBox, sCall, cellsAt, hget, hd1, vcells, one, holeAt, idxAt, pushAt, List.length_cons, List.length_nil, List.cons_append, List.nil_append, List.map_cons, List.map_nil, List.take_succ_cons, List.take_zero, List.take_nil, List.drop_succ_cons, List.drop_zero, List.all_cons, List.all_nil, true_and, and_self, implies_true, imp_self, ite_self, not_false_eq_true, eq_self, ne_eq, Bool.and_self, Bool.cond_false_right, Nat.zero_add, Nat.add_zero, Nat.le_refl, reduceCtorEq, Value.oneCell', Nat.reduceAdd, Nat.reduceSub, Nat.reduceLeDiff, tk3, ta3, tf41_0, tf41_1, tf41_2]
  exact hF _ _ _ ⟨trivial, by simp only [Try.f50, rb, valid, retP, sResults, sRes1, resK, retV, vwk, vwk1, hwk, sc, tg, List.length_nil, and_self, eq_self, Nat.le_refl]⟩

def c50 : List SV → List AB → Res
  | [.agg [.raw (.int .i64 k), .raw (.int .i64 n), .raw (.int .i64 m)]], H => ⟨True, .raw (.bool (valid k n m)), H⟩
  | _, _ => no

theorem c50_sound {E : Addr → Option Value} {args : List SV} {H : List AB} (h : (c50 args H).pre) : Ok Try.prog E 50 args H (c50 args H).val (c50 args H).heap := by
  unfold c50 at h ⊢
  split at h
  · exact lift0 (ok50 E _ _ _) (fun _ => rfl) rfl (fun _ => rfl) H
  · exact h.elim

/-! ### A centre in memory -/
structure Cen where
  now : Int
  node : Int
  number : Int
  since : Int
  wait : Int
  wanted : Int
  n : Nat
  gr : Nat → Int

def encC (c : Cen) : List AB :=
  [.cells [ri c.now, ri c.node, ri c.number, ri c.since, rb true, ri c.wait, ri c.wanted, .lst 1 1 0 c.n, .mapv 2] 90,
   .lst c.n 1 (fun k => [ri (c.gr k)]) 3,
   .map [(.int .i64 1, .fn (.func 45) [.ptr 0 0] []), (.int .i64 3, .fn (.func 46) [.ptr 0 0] [])]]

def lix : SV → Nat
  | .lst i _ _ _ => i
  | _ => 0
def mix : SV → Nat
  | .mapv i => i
  | _ => 0
def ivn : SV → Int
  | .raw (.int _ n) => n
  | _ => 0
def cellOf : AB → Nat → SV
  | .cells cs _, j => tg cs j
  | _, _ => .junk
def lstN : AB → Nat
  | .lst n _ _ _ => n
  | _ => 0
def lstF : AB → Nat → List SV
  | .lst _ _ f _ => f
  | _ => fun _ => []
def nodupB : List Nat → Bool
  | [] => true
  | i :: l => !(l.contains i) && nodupB l
theorem nodupB_spec : ∀ {l : List Nat}, nodupB l = true → l.Nodup
  | [], _ => by simp
  | i :: l, h => by
    simp only [nodupB, Bool.and_eq_true, Bool.not_eq_true'] at h
    rw [List.nodup_cons]
    exact ⟨fun hm => (by rw [List.contains_iff_mem.2 hm] at h; cases h.1), nodupB_spec h.2⟩

def sigC (H : List AB) (i : Nat) : List Nat := [i, lix (cellOf (hget H i) 7), mix (cellOf (hget H i) 8)]
def decC2 (A B : AB) : Cen :=
  { now := ivn (cellOf A 0), node := ivn (cellOf A 1), number := ivn (cellOf A 2), since := ivn (cellOf A 3), wait := ivn (cellOf A 5), wanted := ivn (cellOf A 6), n := lstN B, gr := fun k => ivn (hd1 (lstF B k)) }
def decC (H : List AB) (i : Nat) : Cen := decC2 (hget H i) (hget H (lix (cellOf (hget H i) 7)))

theorem hwk_encC (c : Cen) : hwk (encC c).length (encC c) (encC c) := by
  simp only [encC, vwks, vwk1, hwk, bwk, sc, scs, scEnts, List.length_cons, List.length_nil, and_self, implies_true, eq_self, Bool.and_self, decide_true, Nat.zero_add, Nat.le_refl, Nat.reduceAdd, Nat.reduceLT]

/-- A method of a centre: what it does to the centre, and what it returns. -/
def onC (f : Cen → SV × Cen) (pre : Cen → Prop) (H : List AB) (i : Nat) : Res :=
  ⟨(subH (sig (sigC H i) H.length) H (sigC H i) (encC (decC H i)) ∧ nodupB (sigC H i) = true) ∧ pre (decC H i), (f (decC H i)).1, updH (sig (sigC H i) H.length) H (sigC H i) (encC (f (decC H i)).2)⟩

theorem onC_sound {E : Addr → Option Value} {fn : FuncId} {args : List SV} {f : Cen → SV × Cen} {pre : Cen → Prop} {H : List AB} {i : Nat} (hok : ∀ c, pre c → Ok Try.prog E fn (.ptr 0 0 :: args) (encC c) (f c).1 (encC (f c).2))
    (ha : ∀ τ : Nat → Nat, rens τ args = args) (hs : scs 3 args = true) (hv : ∀ c (τ : Nat → Nat), ren τ (f c).1 = (f c).1) (h : (onC f pre H i).pre) : Ok Try.prog E fn (.ptr i 0 :: args) H (onC f pre H i).val (onC f pre H i).heap := by
  obtain ⟨⟨h1, h2⟩, h3⟩ := h
  have := (hok (decC H i) h3).frame H (sigC H i) h1 (nodupB_spec h2) (by simp only [scs, sc, encC, List.length_cons, List.length_nil, hs]; rfl) (hwk_encC _)
  simp only [rens, ren, ha, hv] at this
  rwa [show sig (sigC H i) H.length 0 = i from rfl] at this

end Go.Proofs.Ytmnpnnegnlhemaa.Eng
