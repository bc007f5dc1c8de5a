/- The walk over a node's asks, by the engine. -/
import Derived.Test.YtmnpnnegnlhemaaCc
namespace Go.Proofs.Ytmnpnnegnlhemaa.Eng
open Go

/-- The first range over a function in a code. -/
def rfOf : Code → Option (Array Tmp × Code × Code)
  | .seq a b => match rfOf a with
    | some x => some x
    | none => rfOf b
  | .block _ c => rfOf c
  | .loop c => rfOf c
  | .cond _ a b => match rfOf a with
    | some x => some x
    | none => rfOf b
  | .rangeFunc _ ps a b => some (ps, a, b)
  | _ => none
def rfb (f : Func) : Array Tmp × Code × Code := match f.body with
  | some c => (rfOf c).getD (#[], .skip, .skip)
  | none => (#[], .skip, .skip)

def pl58 : Nat → Plan
  | _ => []
set_option maxRecDepth 100000 in
theorem ok58 (E : Addr → Option Value) (x : Nod) : Ok Try.prog E 58 [.ptr 0 6] (encN x) (.fn (.func 59) [] [.ptr 2 0]) (encN x ++ [.cells [.ptr 0 6] 108]) := by
  refine ok_of_eng (pl := pl58) mixed (Γ0_sound E) Try.func58 rfl rfl (by kernel_rfl) (by simp [encN]) 100 (fun F hF => ?_)
  simp only [Try.f58, pl58, encN, ri, rb, eng, litSt, srunA_nil, srunA_b, stepR, contB_mk, r0, regC, sop, unw, strip, sev, tg, tset, tput, undefs, needs, opNeeds, sBox, vcells, one, holeAt, idxAt, pushAt, List.length_cons, List.length_nil, List.cons_append, List.nil_append, List.map_cons, List.map_nil, List.all_cons, List.all_nil, true_and, and_self, eq_self, Bool.and_self, Nat.zero_add, Nat.reduceAdd, Nat.reduceSub]
  exact hF _ _ _ ⟨trivial, by simp only [Try.f58, encN, ri, rb, retP, sResults, sRes1, resK, retV, vwk, vwks, vwk1, hwk, bwk, sc, scs, tg, List.length_cons, List.length_nil, List.cons_append, List.nil_append, and_self, implies_true, eq_self, Bool.and_self, decide_true, Nat.zero_add, Nat.le_refl, Nat.reduceAdd, Nat.reduceLT, Nat.reduceLeDiff]⟩

def ΓA : Con := fun f args H => match f with
  | .func 58 => match args with
    | [.ptr i 6] => onNat 6 (fun x => (.fn (.func 59) [] [.ptr 2 0], encN x ++ [.cells [.ptr 0 6] 108])) allN H i
    | _ => no
  | _ => no
theorem ΓA_sound (E : Addr → Option Value) : Con.Sound Try.prog E ΓA := by
  intro f args H h
  unfold ΓA at h ⊢
  split at h
  · split at h
    · exact onNat_sound (args := []) (fun x _ => ok58 E x) (fun _ => rfl) rfl h
    · exact h.elim
  · exact h.elim

def pl51 : Nat → Plan
  | _ => []
def pl51y : Nat → Plan := pl51
def t51 (m : Int) : List SV := [.ptr 0 6, ri m, .ptr 2 0, .ptr 3 0, .ptr 4 0, .ptr 5 0, .ptr 6 0, .raw undef, .raw undef, .ptr 0 6, .fn (.func 59) [] [.ptr 7 0]] ++ undefs 18
def h51 (x : Nod) (m : Int) (l : Nat) (r : Loop) (k : Int) : List AB :=
  [.cells [ri x.now, rb true, ri x.number, ri x.term, ri x.en, ri x.last, .lst 1 2 x.off x.len] 96,
   .lst (x.off + x.len) 2 (fun k => [ri (x.an k), ri (x.av k)]) 110,
   .cells [.ptr 0 6] 108, .cells [ri m] 3, .cells [ri 0] 3, .cells [rb false] 4, .cells [ri k] 3, .cells [.ptr 0 6] 108, .lrec l (t51 m) r]
def g51 (x : Nod) (m : Int) (l : Nat) (r : Loop) (k : Nat) (v : Int) : List AB :=
  [.cells [ri x.now, rb true, ri x.number, ri x.term, ri x.en, ri x.last, .lst 1 2 (x.off + k) (x.len - k)] 96,
   .lst (x.off + x.len) 2 (fun k => [ri (x.an k), ri (x.av k)]) 110,
   .cells [.ptr 0 6] 108, .cells [ri m] 3, .cells [ri v] 3, .cells [rb true] 4, .cells [ri k] 3, .cells [.ptr 0 6] 108, .lrec l (t51 m) (rto r .done (some .ret))]

theorem wrap1 {k : Int} (h0 : 0 ≤ k) (h1 : k ≤ 1000000) : IntKind.i64.wrap (k + 1) = k + 1 := w64 (by omega) (by omega)

set_option maxRecDepth 100000 in
theorem y51 (E : Addr → Option Value) (x : Nod) (m : Int) (l : Nat) (r : Loop) (k : Int) (n v : Int) (hx : x.room) (h0 : 0 ≤ k) (h1 : k < x.len) (hs : r.state = .ready) (hp : r.pending = none) (hps : r.params.toList = [11, 12]) (has : r.assign = (rfb Try.f51).2.1) (hb : r.body = (rfb Try.f51).2.2) :
    YOk Try.prog E l [ri n, ri v] (h51 x m l r k ++ [.cells [ri n, ri v] 110]) (rb (!decide (n = m)))
      (match decide (n = m) with | true => g51 x m l r (k.toNat + 1) v ++ [.cells [ri n, ri v] 110] | false => h51 x m l r (k + 1) ++ [.cells [ri n, ri v] 110]) := by
  have hx' : x.len ≤ 1000000 := hx
  have hw := wrap1 h0 (by omega)
  have hk1 : 0 ≤ k + 1 := by omega
  have hk2 : (k + 1).toNat = k.toNat + 1 := by omega
  have hk3 : k.toNat + 1 ≤ x.len := by omega
  have hk4 : k + 1 ≤ (x.len : Int) := by omega
  have hk5 : ((k.toNat + 1 : Nat) : Int) = k + 1 := by omega
  have hr0 : rto r .ready none = r := by rw [← hs, ← hp]; rfl
  have hr1 : rto r .busy none = rto r .busy none := rfl
  refine yok_of_eng (i := 8) (τ := t51 m) (r := r) (pl := pl51) mixed (Γ0_sound E) (by simp only [h51, hget, List.cons_append, List.nil_append, eq_self]) has hb hps rfl (by kernel_rfl) (by kernel_rfl) (by cases decide (n = m) <;> simp [h51, g51]) 100 (fun F hF => ?_)
  simp only [Try.f51, rfb, rfOf, pl51, h51, t51, ri, rb, hs, hp, hw, begF, putPs, eng, litSt, srunA_nil, srunA_b, stepR, contB_mk, r0, regC, sop, unw, strip, sev, tg, tset, tput, undefs, needs, opNeeds, sBin, ibin, shiftOp, gdst, onth, selC, sLoad, sStore, sNil, sField, sSlice, cellsAt, hget, hset, hd1, vcells, one, splice, drawSt, preL, chkL, stp, nxtB_mk, pref_0, pref_b, allocOp, holes, List.length_cons, List.length_nil, List.cons_append, List.nil_append, List.append_nil, List.take_succ_cons, List.take_zero, List.take_nil, List.drop_succ_cons, List.drop_zero, List.drop_nil, List.all_cons, List.all_nil, true_and, and_true, and_self, or_true, not_false_eq_true, eq_self, ne_eq, Bool.false_eq_true, Bool.and_self, Nat.zero_add, Nat.add_zero, Nat.le_refl, Option.getD_some, reduceCtorEq, Value.oneCell', Nat.reduceAdd, tk3, ts3, ta3, tk4, ts4, tk92, ts92, ta92, te92, tf94_0, tk108, ta108, tk110, ts110]
  cases h : decide (n = m) with
  | true =>
    simp only [hk1, hk2, hk4, true_and, and_self]
    refine hF none _ _ _ ?_
    simp only [h, h51, g51, t51, ri, rb, hk5, rto_rto, RFin, rfin, jumpOf, endSt, Option.isNone_some, vwks, vwk1, hwk, bwk, sc, scs, undefs, hget, hset, List.length_cons, List.length_nil, List.cons_append, List.nil_append, and_self, implies_true, eq_self, Bool.not_true, Bool.and_self, decide_true, Nat.zero_add, Nat.le_refl, Nat.reduceAdd, Nat.reduceLT]
  | false =>
    simp only []
    refine hF none _ _ _ ?_
    simp only [h, h51, t51, ri, rb, hr0, rto_rto, RFin, rfin, jumpOf, endSt, Option.isNone_none, vwks, vwk1, hwk, bwk, sc, scs, undefs, hget, hset, List.length_cons, List.length_nil, List.cons_append, List.nil_append, and_self, implies_true, eq_self, Bool.not_false, Bool.and_self, decide_true, Nat.zero_add, Nat.le_refl, Nat.reduceAdd, Nat.reduceLT]

/-- What the range's function knows of its rounds. -/
def Y51 (x : Nod) (m : Int) (l : Nat) (r : Loop) : Con := fun f args H => match f with
  | .yield q => match args with
    | [.raw (.int .i64 n), .raw (.int .i64 v)] =>
      ⟨l = q ∧ (0 ≤ ivn (cellOf (hget H 6) 0) ∧ ivn (cellOf (hget H 6) 0) < x.len) ∧ H = h51 x m l r (ivn (cellOf (hget H 6) 0)) ++ [.cells [ri n, ri v] 110], rb (!decide (n = m)),
        match decide (n = m) with
        | true => g51 x m l r ((ivn (cellOf (hget H 6) 0)).toNat + 1) v ++ [.cells [ri n, ri v] 110]
        | false => h51 x m l r (ivn (cellOf (hget H 6) 0) + 1) ++ [.cells [ri n, ri v] 110]⟩
    | _ => no
  | _ => no

theorem Y51_sound (E : Addr → Option Value) (x : Nod) (m : Int) (l : Nat) (r : Loop) (hx : x.room) (hs : r.state = .ready) (hp : r.pending = none) (hps : r.params.toList = [11, 12]) (has : r.assign = (rfb Try.f51).2.1) (hb : r.body = (rfb Try.f51).2.2) : Con.Sound Try.prog E (Y51 x m l r) := by
  intro f args H h
  unfold Y51 at h ⊢
  split at h
  · split at h
    · rename_i n v
      obtain ⟨hl, ⟨h1, h2⟩, h3⟩ := h
      subst hl
      have := y51 E x m l r _ n v hx h1 h2 hs hp hps has hb
      rw [← h3] at this
      exact this
    · exact h.elim
  · exact h.elim

def firstAt (p : Nat → Bool) : Nat → Nat → Nat
  | k, 0 => k
  | k, n + 1 => match p k with
    | true => k
    | false => firstAt p (k + 1) n

/-- Where the first ask of a number lies. -/
def Nod.at (x : Nod) (m : Int) : Nat := firstAt (fun k => decide (x.an (x.off + k) = m)) 0 x.len

end Go.Proofs.Ytmnpnnegnlhemaa.Eng
