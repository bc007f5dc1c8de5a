/- The walk over a node's asks: the range's function, and what it is for. -/
import Derived.Test.YtmnpnnegnlhemaaCd
namespace Go.Proofs.Ytmnpnnegnlhemaa.Eng
open Go

theorem firstAt_eq {p : Nat → Bool} : ∀ (n k j : Nat), k ≤ j → j ≤ k + n → (∀ i, k ≤ i → i < j → p i = false) → (j < k + n → p j = true) → firstAt p k n = j
  | 0, k, j, h1, h2, _, _ => by simp only [firstAt]; omega
  | n + 1, k, j, h1, h2, h3, h4 => by
    simp only [firstAt]
    by_cases e : k = j
    · subst e
      rw [h4 (by omega)]
    · rw [h3 k (Nat.le_refl _) (by omega)]
      exact firstAt_eq n (k + 1) j (by omega) (by omega) (fun i hi hj => h3 i (by omega) hj) (fun hj => h4 (by omega))

def pl59 : Nat → Plan
  | _ => []
def py59 : Nat → Plan
  | 3 => [([], 0)]
  | id => pl59 id
set_option maxRecDepth 100000 in
theorem ok59 (E : Addr → Option Value) (x : Nod) (m : Int) (l : Nat) (r : Loop) (hx : x.room) (hs : r.state = .ready) (hp : r.pending = none) (hps : r.params.toList = [11, 12]) (has : r.assign = (rfb Try.f51).2.1) (hb : r.body = (rfb Try.f51).2.2) :
    Ok Try.prog E 59 [.fn (.yield l) [] [], .ptr 7 0] (h51 x m l r 0) (.tup []) (match decide (x.at m < x.len) with | true => g51 x m l r (x.at m + 1) (x.av (x.off + x.at m)) | false => h51 x m l r x.len) := by
  have hx' : x.len ≤ 1000000 := hx
  refine ok_of_eng (pl := py59) mixed (Y51_sound E x m l r hx hs hp hps has hb) Try.func59 rfl rfl (by kernel_rfl) (by cases decide (x.at m < x.len) <;> simp [h51, g51]) 100 (fun F hF => ?_)
  simp only [Try.f59, py59, pl59, h51, t51, ri, rb, eng, litSt, srunA_nil, srunA_b, stepR, contB_mk, r0, regC, sop, unw, strip, sev, tg, tset, tput, undefs, needs, opNeeds, sLoad, sNil, sField, sLen, sBuiltin, cellsAt, hget, hd1, List.length_cons, List.length_nil, List.cons_append, List.nil_append, List.map_cons, List.map_nil, List.take_succ_cons, List.take_nil, List.drop_succ_cons, List.drop_zero, true_and, and_self, not_false_eq_true, eq_self, ne_eq, Nat.zero_add, Nat.add_zero, Nat.le_refl, reduceCtorEq, Nat.reduceAdd, Nat.reduceSub, tk92, ta92, te92, tf94_0, tk108, ta108]
  refine ⟨Nat, fun k => [.fn (.yield l) [] [], .ptr 7 0, .junk, .junk, .junk, .junk, .junk, .junk, .lst 1 2 x.off x.len, ri x.len, ri k, .junk, .junk, .junk, .junk, .junk, .junk, .junk, .junk, .junk, .junk, .junk], fun k => h51 x m l r k,
    fun k => k ≤ x.len ∧ ∀ j, j < k → decide (x.an (x.off + j) = m) = false, fun k => x.len - k, 0, ⟨by omega, fun j hj => by omega⟩, ⟨none, ?_⟩, ?_⟩
  · simp only [NwO, Nw, h51, t51, ri, rb, Int.natCast_zero, NwO, Nw, wk, vwks, vwk1, hwk, bwk, sc, scs, undefs, List.length_cons, List.length_nil, List.cons_append, List.nil_append, and_self, implies_true, eq_self, Bool.and_self, decide_true, Nat.zero_add, Nat.le_refl, Nat.reduceAdd, Nat.reduceLT]
  · rintro k ⟨hk, hall⟩ F' hN hX
    simp only [py59, pl59, h51, t51, Y51, ri, rb, cellOf, ivn, stepY, srunY_nil, srunY_b, contY_mk, yieldR, eng, litSt, srunA_nil, srunA_b, stepR, contB_mk, r0, regC, sop, unw, strip, sev, tg, tset, tput, undefs, needs, opNeeds, sBin, ibin, shiftOp, selC, sLoad, sStore, sField, sIndex, sNew, sAlloc, sUn, cellsAt, hget, hset, hd1, vcells, one, splice, holeAt, idxAt, pushAt, List.length_cons, List.length_nil, List.cons_append, List.nil_append, List.append_nil, List.map_cons, List.map_nil, List.take_succ_cons, List.take_zero, List.take_nil, List.drop_succ_cons, List.drop_zero, List.drop_nil, List.all_cons, List.all_nil, true_and, and_true, and_self, or_true, not_false_eq_true, eq_self, ne_eq, Bool.false_eq_true, Bool.and_self, Nat.zero_add, Nat.add_zero, Nat.le_refl, Int.toNat_natCast, Int.natCast_nonneg, reduceCtorEq, Value.oneCell', Nat.reduceAdd, Nat.reduceLeDiff, tk3, ta3, te92, tk110, ts110, ta110, tz110, tf110_0, tf110_1]
    cases hlt : decide ((k : Int) < x.len) with
    | false =>
      have hkl : k = x.len := by simp at hlt; omega
      have hat : x.at m = x.len := firstAt_eq _ _ _ (Nat.zero_le _) (by omega) (fun i _ hi => hall i (by omega)) (fun h => by omega)
      have hd : decide (x.at m < x.len) = false := by rw [hat]; simp
      simp only []
      refine hX _ _ _ (by simp) ?_
      simp only [popF, eng, popF, exitC, Nat.reduceBEq]
      refine hF _ _ _ ⟨trivial, ?_⟩
      simp only [Try.f59, hd, h51, t51, hkl, ri, rb, retP, sResults, retV, vwk, vwks, vwk1, hwk, bwk, sc, scs, undefs, List.length_cons, List.length_nil, List.cons_append, List.nil_append, and_self, implies_true, eq_self, Bool.and_self, decide_true, Nat.zero_add, Nat.le_refl, Nat.reduceAdd, Nat.reduceLT]
    | true =>
      have hk' : k < x.len := by simp at hlt; omega
      have hk2 : x.off + k < x.off + x.len := by omega
      have hk3 : ((k : Int) < x.len) = True := by simp; omega
      have hw : IntKind.i64.wrap ((k : Int) + 1) = k + 1 := wrap1 (by omega) (by omega)
      simp only [hk2, hk3, hw, true_and, and_self]
      cases ha : decide (x.an (x.off + k) = m) with
      | true =>
        have hat : x.at m = k := firstAt_eq _ _ _ (Nat.zero_le _) (by omega) (fun i _ hi => hall i hi) (fun _ => ha)
        have hd : decide (k < x.len) = true := by simpa using hk'
        simp only [Bool.not_true, Bool.not_false]
        refine hX _ _ _ (by simp) ?_
        simp only [popF, eng, popF]
        refine hF _ _ _ ⟨trivial, ?_⟩
        simp only [Try.f59, hd, hat, g51, h51, t51, ri, rb, retP, sResults, retV, vwk, vwks, vwk1, hwk, bwk, sc, scs, undefs, List.length_cons, List.length_nil, List.cons_append, List.nil_append, and_self, implies_true, eq_self, Bool.and_self, decide_true, Nat.zero_add, Nat.le_refl, Nat.reduceAdd, Nat.reduceLT]
      | false =>
        simp only [Bool.not_true, Bool.not_false]
        refine hN none (k + 1) _ _ ⟨by omega, fun j hj => ?_⟩ (by simp only; omega) ?_
        · rcases Nat.lt_succ_iff_lt_or_eq.1 hj with q | q
          · exact hall j q
          · rw [q]; exact ha
        · simp only [NwO, Nw, h51, t51, ri, rb, Int.natCast_add, Int.natCast_one, NwO, Nw, wk, vwks, vwk1, hwk, bwk, sc, scs, undefs, List.length_cons, List.length_nil, List.cons_append, List.nil_append, and_self, implies_true, eq_self, Bool.and_self, decide_true, Nat.zero_add, Nat.le_refl, Nat.reduceAdd, Nat.reduceLT]
end Go.Proofs.Ytmnpnnegnlhemaa.Eng
