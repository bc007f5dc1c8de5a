/- A node of the command package: its methods, by the engine. -/
import Derived.Test.YtmnpnnegnlhemaaCb
import Derived.Test.YtmnpnnegnlhemaaEt
namespace Go.Proofs.Ytmnpnnegnlhemaa.Eng
open Go

structure Nod where
  now : Int
  number : Int
  term : Int
  en : Int
  last : Int
  off : Nat
  len : Nat
  an : Nat → Int
  av : Nat → Int

def encN (x : Nod) : List AB :=
  [.cells [ri x.now, rb true, ri x.number, ri x.term, ri x.en, ri x.last, .lst 1 2 x.off x.len] 96,
   .lst (x.off + x.len) 2 (fun k => [ri (x.an k), ri (x.av k)]) 110]

def lof : SV → Nat
  | .lst _ _ o _ => o
  | _ => 0
def lln : SV → Nat
  | .lst _ _ _ n => n
  | _ => 0

def el0 : List SV → SV
  | s :: _ => s
  | _ => .junk
def el1 : List SV → SV
  | _ :: s :: _ => s
  | _ => .junk
def el2 : List SV → SV
  | _ :: _ :: s :: _ => s
  | _ => .junk

def sigN (H : List AB) (i : Nat) : List Nat := [i, lix (cellOf (hget H i) 6)]
def decN2 (A B : AB) : Nod :=
  { now := ivn (cellOf A 0), number := ivn (cellOf A 2), term := ivn (cellOf A 3), en := ivn (cellOf A 4), last := ivn (cellOf A 5), off := lof (cellOf A 6), len := lln (cellOf A 6),
    an := fun k => ivn (el0 (lstF B k)), av := fun k => ivn (el1 (lstF B k)) }
def decN (H : List AB) (i : Nat) : Nod := decN2 (hget H i) (hget H (lix (cellOf (hget H i) 6)))

theorem hwk_encN (x : Nod) : hwk (encN x).length (encN x) (encN x) := by
  simp only [encN, vwks, vwk1, hwk, bwk, sc, scs, List.length_cons, List.length_nil, and_self, implies_true, eq_self, Bool.and_self, decide_true, Nat.zero_add, Nat.le_refl, Nat.reduceAdd, Nat.reduceLT]

/-- A method of a node (called at a cell of it): what it does to the node, what the heap is then, and what it returns. -/
def onNat (j : Nat) (f : Nod → SV × List AB) (pre : Nod → Prop) (H : List AB) (i : Nat) : Res :=
  ⟨(subH (sig (sigN H i) H.length) H (sigN H i) (encN (decN H i)) ∧ nodupB (sigN H i) = true) ∧ pre (decN H i), ren (sig (sigN H i) H.length) (f (decN H i)).1, updH (sig (sigN H i) H.length) H (sigN H i) (f (decN H i)).2⟩

theorem onNat_sound {E : Addr → Option Value} {fn : FuncId} {j : Nat} {args : List SV} {f : Nod → SV × List AB} {pre : Nod → Prop} {H : List AB} {i : Nat} (hok : ∀ x, pre x → Ok Try.prog E fn (.ptr 0 j :: args) (encN x) (f x).1 (f x).2)
    (ha : ∀ τ : Nat → Nat, rens τ args = args) (hs : scs 2 args = true) (h : (onNat j f pre H i).pre) : Ok Try.prog E fn (.ptr i j :: args) H (onNat j f pre H i).val (onNat j f pre H i).heap := by
  obtain ⟨⟨h1, h2⟩, h3⟩ := h
  have := (hok (decN H i) h3).frame H (sigN H i) h1 (nodupB_spec h2) (by simp only [scs, sc, encN, List.length_cons, List.length_nil, hs]; rfl) (hwk_encN _)
  simp only [rens, ren, ha] at this
  rwa [show sig (sigN H i) H.length 0 = i from rfl] at this

def allN (_ : Nod) : Prop := True

set_option maxRecDepth 100000 in
theorem ok48 (E : Addr → Option Value) (x : Nod) : Ok Try.prog E 48 [.ptr 0 0] (encN x) (rb true) (encN x) := by
  refine ok_of_eng (pl := pl0) mixed (Γ0_sound E) Try.func48 rfl rfl (by kernel_rfl) (by simp) 100 (fun F hF => ?_)
  simp only [Try.f48, encN, ri, rb, eng, litSt, pl0, srunA_nil, srunA_b, stepR, contB_mk, r0, r1, r2, regC, sop, unw, strip, sev, tg, tset, tput, undefs, needs, opNeeds, sBin, gb, gslot, gdst, onth, wants, sPick, sLoad, sNil, sField, cellsAt, hget, hd1, List.length_cons, List.length_nil, List.cons_append, List.nil_append, List.take_succ_cons, List.take_zero, List.drop_succ_cons, List.drop_zero, true_and, and_self, implies_true, not_false_eq_true, eq_self, ne_eq, Bool.true_eq_false, Bool.cond_true, Nat.zero_add, reduceCtorEq, ↓reduceIte, Nat.reduceAdd, Nat.reduceSub, Nat.reduceLeDiff, tk4, ta4, tp30, tf96_1]
  exact hF _ _ _ ⟨trivial, by simp only [Try.f48, encN, ri, rb, retP, sResults, sRes1, resK, retV, vwk, vwks, vwk1, hwk, bwk, sc, scs, tg, List.length_cons, List.length_nil, and_self, implies_true, eq_self, Bool.and_self, decide_true, Nat.zero_add, Nat.le_refl, Nat.reduceAdd, Nat.reduceLT]⟩

def Nod.tk (x : Nod) : Nod := { x with now := IntKind.i64.wrap (x.now + 1) }
set_option maxRecDepth 100000 in
theorem ok54N (E : Addr → Option Value) (x : Nod) : Ok Try.prog E 54 [.ptr 0 0] (encN x) (.tup []) (encN x.tk) := by
  refine ok_of_eng (pl := pl0) mixed (Γ0_sound E) Try.func54 rfl rfl (by kernel_rfl) (by simp [encN]) 100 (fun F hF => ?_)
  simp only [Try.f54, encN, ri, rb, eng, litSt, pl0, srunA_nil, srunA_b, stepR, contB_mk, r0, regC, sop, unw, strip, sev, tg, tset, tput, undefs, needs, opNeeds, sBin, ibin, shiftOp, sLoad, sStore, sNil, sField, cellsAt, hget, hset, hd1, vcells, one, splice, List.length_cons, List.length_nil, List.cons_append, List.nil_append, List.take_succ_cons, List.take_zero, List.drop_succ_cons, List.drop_zero, List.all_cons, List.all_nil, true_and, and_self, or_true, not_false_eq_true, eq_self, ne_eq, Bool.false_eq_true, Bool.and_self, Nat.zero_add, Nat.add_zero, reduceCtorEq, Value.oneCell', Nat.reduceAdd, Nat.reduceSub, Nat.reduceLeDiff, tk3, ts3, ta3, tf85_0]
  exact hF _ _ _ ⟨trivial, by simp only [Try.f54, encN, Nod.tk, ri, rb, retP, sResults, retV, vwk, vwks, vwk1, hwk, bwk, sc, scs, List.length_cons, List.length_nil, and_self, implies_true, eq_self, Bool.and_self, decide_true, Nat.zero_add, Nat.le_refl, Nat.reduceAdd, Nat.reduceLT]⟩

def Nod.fall (x : Nod) : Nod := { x with en := x.now, off := 0, len := 0 }
def pl53 : Nat → Plan
  | _ => []
set_option maxRecDepth 100000 in
theorem ok53 (E : Addr → Option Value) (x : Nod) : Ok Try.prog E 53 [.ptr 0 0] (encN x) (.tup []) (encN x.fall) := by
  refine ok_of_eng (pl := pl53) mixed (Γ0_sound E) Try.func53 rfl rfl (by kernel_rfl) (by simp [encN]) 100 (fun F hF => ?_)
  simp only [Try.f53, pl53, encN, ri, rb, eng, litSt, srunA_nil, srunA_b, stepR, contB_mk, r0, regC, sop, unw, strip, sev, tg, tset, tput, undefs, needs, opNeeds, sLoad, sStore, sNil, sField, sFill, sBuild, cellsAt, hget, hset, hd1, vcells, one, splice, nth, List.length_cons, List.length_nil, List.cons_append, List.nil_append, List.append_nil, List.map_cons, List.map_nil, List.take_succ_cons, List.take_zero, List.drop_succ_cons, List.drop_zero, List.drop_nil, List.all_cons, List.all_nil, true_and, and_self, not_false_eq_true, eq_self, ne_eq, Bool.and_self, Nat.zero_add, Nat.add_zero, Nat.le_refl, reduceCtorEq, Value.oneCell', Nat.reduceAdd, Nat.reduceSub, Nat.reduceLeDiff, tk3, ts3, ta3, tf85_0, tk94, ts94, tz94, tpl94, tf96_0, tf96_4, tf96_6]
  exact hF _ _ _ ⟨trivial, by simp only [Try.f53, encN, Nod.fall, ri, rb, retP, sResults, retV, vwk, vwks, vwk1, hwk, bwk, sc, scs, List.length_cons, List.length_nil, true_and, and_true, and_self, implies_true, eq_self, Bool.and_self, decide_true, Nat.zero_add, Nat.add_zero, Nat.le_refl, Nat.reduceAdd, Nat.reduceLT]; simp⟩

def Nod.room (x : Nod) : Prop := x.len ≤ 1000000
/-- A node whose asks lie in a block behind. -/
def encN2 (x : Nod) : List AB :=
  [.cells [ri x.now, rb true, ri x.number, ri x.term, ri x.en, ri x.last, .lst 2 2 x.off x.len] 96, .dead,
   .lst (x.off + x.len) 2 (fun k => [ri (x.an k), ri (x.av k)]) 110]
def Nod.add (x : Nod) (n v : Int) : Nod := { x with off := 0, len := x.len + 1, an := fun k => if k < x.len then x.an (x.off + k) else n, av := fun k => if k < x.len then x.av (x.off + k) else v }
def pl49 : Nat → Plan
  | _ => []
set_option maxRecDepth 100000 in
theorem ok49 (E : Addr → Option Value) (x : Nod) (n v : Int) (hx : x.room) : Ok Try.prog E 49 [.ptr 0 6, ri n, ri v] (encN x) (.tup []) (encN2 (x.add n v)) := by
  unfold Nod.room at hx
  refine ok_of_engR (pl := pl49) mixed (Γ0_sound E) Try.func49 rfl rfl (by kernel_rfl) (by simp [encN, encN2]) 100 (fun F _ hG => ?_)
  simp only [Try.f49, pl49, encN, ri, rb, eng, litSt, srunA_nil, srunA_b, stepR, contB_mk, r0, regC, sop, unw, strip, sev, tg, tset, tput, undefs, needs, opNeeds, sLoad, sStore, sNil, sField, sFill, sBuild, sLit, sApp, sBuiltin, cellsAt, hget, hset, hd1, vcells, one, whole, splice, holeAt, idxAt, pushAt, nth, zrep, tgt, src, allK, List.length_cons, List.length_nil, List.cons_append, List.nil_append, List.append_nil, List.map_cons, List.map_nil, List.take_succ_cons, List.take_zero, List.take_nil, List.drop_succ_cons, List.drop_zero, List.drop_nil, List.all_cons, List.all_nil, true_and, and_true, and_self, not_false_eq_true, eq_self, ne_eq, Bool.and_self, decide_true, Nat.zero_add, Nat.add_zero, Nat.zero_mul, Nat.one_mul, Nat.le_refl, reduceCtorEq, Value.oneCell', Nat.reduceAdd, Nat.reduceSub, Nat.reduceLT, Nat.reduceLeDiff, tk92, ts92, ta92, te92, tf94_0, tk110, ts110, tb110, tz110, tpl110]
  refine ⟨⟨by omega, by omega⟩, hG [0, 1, 3] _ _ _ ⟨trivial, rfl, ?_⟩⟩
  simp only [Try.f49, encN, encN2, Nod.add, ri, rb, renR, renJ, renJs, mvH, hgetO, memB, posG, jp, renJB, retP, sResults, retV, vwk, vwks, vwk1, hwk, bwk, sc, scs, app, List.length_cons, List.length_nil, true_and, and_true, and_self, implies_true, eq_self, Bool.and_self, decide_true, decide_false, Nat.zero_add, Nat.le_refl, reduceCtorEq, Nat.reduceAdd, Nat.reduceLT, Nat.reduceLeDiff, Nat.reduceEqDiff]
  intro k hk
  by_cases h : k < x.len
  · simp only [h, if_true, renJs, renJ]
  · have : k - x.len = 0 := by omega
    simp only [h, this, List.take_succ_cons, List.take_nil, List.drop_zero, eq_self, Nat.zero_mul, ↓reduceIte, renJs, renJ]

/-! the node's own calls -/
def ΓN : Con := fun f args H => match f with
  | .func 48 => match args with
    | [.ptr i 0] => onNat 0 (fun x => (.raw (.bool true), encN x)) allN H i
    | _ => no
  | .func 49 => match args with
    | [.ptr i 6, .raw (.int .i64 n), .raw (.int .i64 v)] => onNat 6 (fun x => (.tup [], encN2 (x.add n v))) Nod.room H i
    | _ => no
  | .func 53 => match args with
    | [.ptr i 0] => onNat 0 (fun x => (.tup [], encN x.fall)) allN H i
    | _ => no
  | .func 54 => match args with
    | [.ptr i 0] => onNat 0 (fun x => (.tup [], encN x.tk)) allN H i
    | _ => no
  | _ => no
theorem ΓN_sound (E : Addr → Option Value) : Con.Sound Try.prog E ΓN := by
  intro f args H h
  unfold ΓN at h ⊢
  split at h
  · split at h
    · exact onNat_sound (args := []) (fun x _ => ok48 E x) (fun _ => rfl) rfl h
    · exact h.elim
  · split at h
    · rename_i i n v
      exact onNat_sound (args := [ri n, ri v]) (fun x hx => ok49 E x n v hx) (fun _ => rfl) rfl h
    · exact h.elim
  · split at h
    · exact onNat_sound (args := []) (fun x _ => ok53 E x) (fun _ => rfl) rfl h
    · exact h.elim
  · split at h
    · exact onNat_sound (args := []) (fun x _ => ok54N E x) (fun _ => rfl) rfl h
    · exact h.elim
  · exact h.elim

def pl26 : Nat → Plan
  | _ => []
set_option maxRecDepth 100000 in
theorem ok26 (E : Addr → Option Value) (x : Nod) : Ok Try.prog E 26 [.ptr 0 0] (encN x) (.tup [ri x.now, ri x.en]) (encN x) := by
  refine ok_of_eng (pl := pl26) mixed (ΓN_sound E) Try.func26 rfl rfl (by kernel_rfl) (by simp) 100 (fun F hF => ?_)
  simp only [Try.f26, pl26, ΓN, onNat, allN, sigN, ren, rens, decN, decN2, lix, lof, lln, el0, el1, ivn, cellOf, lstF, nodupB, encN, ri, rb, renB, rens, ren, sig, subH, updH, eng, litSt, srunA_nil, srunA_b, stepR, contB_mk, r0, regC, sop, unw, strip, sev, tg, tset, tput, undefs, needs, opNeeds, gdst, onth, selC, sLoad, sNil, sField, sCall, sUn, cellsAt, hget, hset, hd1, drawSt, preL, chkL, stp, nxtB_mk, pref_0, pref_b, allocOp, holes, List.length_cons, List.length_nil, List.cons_append, List.nil_append, List.append_nil, List.map_cons, List.map_nil, List.take_succ_cons, List.take_zero, List.drop_succ_cons, List.drop_zero, List.contains_cons, List.contains_nil, List.getElem?_cons_zero, List.getElem?_cons_succ, true_and, and_self, not_false_eq_true, eq_self, ne_eq, Bool.not_true, Bool.not_false, Bool.or_false, Bool.and_self, Nat.zero_add, Nat.add_zero, Option.getD_some, reduceCtorEq, Nat.reduceAdd, Nat.reduceSub, Nat.reduceLT, Nat.reduceLeDiff, Nat.reduceBEq, tk3, ta3, tf85_0, tf96_0, tf96_4]
  exact hF _ _ _ ⟨trivial, by simp only [Try.f26, encN, ri, rb, retP, sResults, sRes1, resK, retV, vwk, vwks, vwk1, hwk, bwk, sc, scs, tg, List.length_cons, List.length_nil, and_self, implies_true, eq_self, Bool.and_self, decide_true, Nat.zero_add, Nat.le_refl, Nat.reduceAdd, Nat.reduceLT]⟩

def pl27 : Nat → Plan
  | _ => []
set_option maxRecDepth 100000 in
theorem ok27 (E : Addr → Option Value) (x : Nod) : Ok Try.prog E 27 [.ptr 0 0] (encN x) (rb (decide (x.now < x.en))) (encN x) := by
  refine ok_of_eng (pl := pl27) mixed (ΓN_sound E) Try.func27 rfl rfl (by kernel_rfl) (by simp) 100 (fun F hF => ?_)
  simp only [Try.f27, pl27, ΓN, onNat, allN, sigN, ren, rens, decN, decN2, lix, lof, lln, el0, el1, ivn, cellOf, lstF, nodupB, encN, ri, rb, renB, rens, ren, sig, subH, updH, eng, litSt, srunA_nil, srunA_b, stepR, contB_mk, r0, r1, r2, regC, sop, unw, strip, sev, tg, tset, tput, undefs, needs, opNeeds, sBin, ibin, shiftOp, gb, gslot, gdst, onth, wants, sPick, sLoad, sNil, sField, sCall, cellsAt, hget, hset, hd1, drawSt, preL, chkL, stp, nxtB_mk, pref_0, pref_b, allocOp, holes, List.length_cons, List.length_nil, List.cons_append, List.nil_append, List.append_nil, List.map_cons, List.map_nil, List.take_succ_cons, List.take_zero, List.drop_succ_cons, List.drop_zero, List.contains_cons, List.contains_nil, List.getElem?_cons_zero, List.getElem?_cons_succ, true_and, and_self, or_true, implies_true, not_false_eq_true, eq_self, ne_eq, Bool.true_eq_false, Bool.false_eq_true, Bool.not_false, Bool.or_false, Bool.and_self, Bool.cond_true, Nat.zero_add, Nat.add_zero, Option.getD_some, reduceCtorEq, ↓reduceIte, Nat.reduceAdd, Nat.reduceSub, Nat.reduceLT, Nat.reduceLeDiff, Nat.reduceBEq, tk3, ta3, tf85_0, tf96_0, tf96_4]
  exact hF _ _ _ ⟨trivial, by simp only [Try.f27, encN, ri, rb, retP, sResults, sRes1, resK, retV, vwk, vwks, vwk1, hwk, bwk, sc, scs, tg, List.length_cons, List.length_nil, and_self, implies_true, eq_self, Bool.and_self, decide_true, Nat.zero_add, Nat.le_refl, Nat.reduceAdd, Nat.reduceLT]⟩

def pl21 : Nat → Plan
  | _ => []
set_option maxRecDepth 100000 in
theorem ok21 (E : Addr → Option Value) (x : Nod) : Ok Try.prog E 21 [.ptr 0 0] (encN x) (ri 0) (encN x.fall) := by
  refine ok_of_eng (pl := pl21) mixed (ΓN_sound E) Try.func21 rfl rfl (by kernel_rfl) (by simp [encN]) 100 (fun F hF => ?_)
  simp only [Try.f21, pl21, ΓN, onNat, allN, sigN, ren, rens, decN, decN2, lix, lof, lln, el0, el1, ivn, cellOf, lstF, nodupB, encN, Nod.fall, ri, rb, renB, rens, ren, sig, subH, updH, eng, litSt, srunA_nil, srunA_b, stepR, contB_mk, r0, regC, sop, unw, strip, sev, tg, tset, tput, undefs, needs, opNeeds, selC, sCall, sUn, hget, hset, List.length_cons, List.length_nil, List.cons_append, List.nil_append, List.append_nil, List.map_cons, List.map_nil, List.contains_cons, List.contains_nil, List.getElem?_cons_zero, List.getElem?_cons_succ, true_and, and_self, eq_self, Bool.not_true, Bool.not_false, Bool.or_false, Bool.and_self, Nat.zero_add, Nat.add_zero, Option.getD_some, Nat.reduceAdd, Nat.reduceSub, Nat.reduceLT, Nat.reduceBEq, ]
  exact hF _ _ _ ⟨trivial, by simp only [Try.f21, encN, Nod.fall, ri, rb, retP, sResults, sRes1, resK, retV, vwk, vwks, vwk1, hwk, bwk, sc, scs, tg, List.length_cons, List.length_nil, and_self, implies_true, eq_self, Bool.and_self, decide_true, Nat.zero_add, Nat.add_zero, Nat.le_refl, Nat.reduceAdd, Nat.reduceLT, ]⟩

def pl25 : Nat → Plan
  | _ => []
set_option maxRecDepth 100000 in
theorem ok25 (E : Addr → Option Value) (x : Nod) : Ok Try.prog E 25 [.ptr 0 0] (encN x) (ri 0) (encN x.tk) := by
  refine ok_of_eng (pl := pl25) mixed (ΓN_sound E) Try.func25 rfl rfl (by kernel_rfl) (by simp [encN]) 100 (fun F hF => ?_)
  simp only [Try.f25, pl25, ΓN, onNat, allN, sigN, ren, rens, decN, decN2, lix, lof, lln, el0, el1, ivn, cellOf, lstF, nodupB, encN, Nod.tk, ri, rb, renB, rens, ren, sig, subH, updH, eng, litSt, srunA_nil, srunA_b, stepR, contB_mk, r0, regC, sop, unw, strip, sev, tg, tset, tput, undefs, needs, opNeeds, selC, sNil, sField, sCall, sUn, hget, hset, List.length_cons, List.length_nil, List.cons_append, List.nil_append, List.append_nil, List.map_cons, List.map_nil, List.contains_cons, List.contains_nil, List.getElem?_cons_zero, List.getElem?_cons_succ, true_and, and_self, not_false_eq_true, eq_self, ne_eq, Bool.not_true, Bool.not_false, Bool.or_false, Bool.and_self, Nat.zero_add, Nat.add_zero, Option.getD_some, reduceCtorEq, Nat.reduceAdd, Nat.reduceSub, Nat.reduceLT, Nat.reduceBEq, tf96_0]
  exact hF _ _ _ ⟨trivial, by simp only [Try.f25, encN, Nod.tk, ri, rb, retP, sResults, sRes1, resK, retV, vwk, vwks, vwk1, hwk, bwk, sc, scs, tg, List.length_cons, List.length_nil, and_self, implies_true, eq_self, Bool.and_self, decide_true, Nat.zero_add, Nat.le_refl, Nat.reduceAdd, Nat.reduceLT]⟩

def pl23 : Nat → Plan
  | _ => []
def Nod.ret (x : Nod) : Nod := if decide (x.last = 0) = true then x else x.fall
def Nod.retW (x : Nod) : SV := word (if decide (x.last = 0) = true then 0 else 3) (if decide (x.last = 0) = true then 0 else x.number) (if decide (x.last = 0) = true then 0 else x.last)
set_option maxRecDepth 100000 in
theorem ok23 (E : Addr → Option Value) (x : Nod) : Ok Try.prog E 23 [.ptr 0 0] (encN x) (.tup [x.retW, ri (if decide (x.last = 0) = true then 9 else 0)]) (encN x.ret) := by
  refine ok_of_eng (pl := pl23) mixed (ΓN_sound E) Try.func23 rfl rfl (by kernel_rfl) (by simp [encN]) 100 (fun F hF => ?_)
  simp only [Try.f23, pl23, ΓN, onNat, allN, sigN, ren, rens, decN, decN2, lix, lof, lln, el0, el1, ivn, cellOf, lstF, nodupB, encN, Nod.fall, ri, rb, renB, rens, ren, sig, subH, updH, eng, litSt, srunA_nil, srunA_b, stepR, contB_mk, r0, regC, sop, unw, strip, sev, tg, tset, tput, undefs, needs, opNeeds, sBin, ibin, shiftOp, gdst, onth, selC, sLoad, sStore, sNil, sField, sNew, sAlloc, sFill, sBuild, sCall, sUn, cellsAt, hget, hset, hd1, vcells, one, whole, splice, holeAt, idxAt, pushAt, nth, drawSt, preL, chkL, stp, nxtB_mk, pref_0, pref_b, allocOp, holes, List.length_cons, List.length_nil, List.cons_append, List.nil_append, List.append_nil, List.map_cons, List.map_nil, List.take_succ_cons, List.take_zero, List.drop_succ_cons, List.drop_zero, List.drop_nil, List.all_cons, List.all_nil, List.contains_cons, List.contains_nil, List.getElem?_cons_zero, List.getElem?_cons_succ, true_and, and_self, or_true, not_false_eq_true, eq_self, ne_eq, Bool.false_eq_true, Bool.not_true, Bool.not_false, Bool.or_false, Bool.and_self, Nat.zero_add, Nat.add_zero, Nat.le_refl, Option.getD_some, reduceCtorEq, Value.oneCell', Nat.reduceAdd, Nat.reduceSub, Nat.reduceLT, Nat.reduceLeDiff, Nat.reduceBEq, tk3, ta3, tk41, ts41, tz41, tpl41, tf96_2, tf96_5]
  cases h : decide (x.last = 0) <;> simp only [] <;>
    exact hF _ _ _ ⟨trivial, by simp only [Try.f23, encN, Nod.fall, Nod.ret, Nod.retW, word, h, ri, rb, retP, sResults, sRes1, resK, retV, vwk, vwks, vwk1, hwk, bwk, sc, scs, tg, sLoad, cellsAt, hget, List.length_cons, List.length_nil, List.take_succ_cons, List.take_nil, List.drop_zero, and_self, implies_true, eq_self, Bool.false_eq_true, Bool.and_self, decide_true, Nat.zero_add, Nat.add_zero, Nat.le_refl, ↓reduceIte, Nat.reduceAdd, Nat.reduceLT, tk41, ts41, ta41]⟩

def pl17 : Nat → Plan
  | _ => []
def Nod.full (x : Nod) : Bool := decide (x.last = 1099511627776)
def Nod.ask (x : Nod) : Nod := if x.full = true then x else { x.add (IntKind.i64.wrap (x.last + 1)) x.now with last := IntKind.i64.wrap (x.last + 1) }
def Nod.askW (x : Nod) : SV := word (if x.full = true then 0 else 1) (if x.full = true then 0 else x.number) (if x.full = true then 0 else IntKind.i64.wrap (x.last + 1))
set_option maxRecDepth 100000 in
theorem ok17 (E : Addr → Option Value) (x : Nod) (hx : x.room) : Ok Try.prog E 17 [.ptr 0 0] (encN x) (.tup [x.askW, ri (if x.full = true then 6 else 0)]) (encN2 x.ask) := by
  have hx' : x.len ≤ 1000000 := hx
  refine ok_of_engR (pl := pl17) mixed (ΓN_sound E) Try.func17 rfl rfl (by kernel_rfl) (by simp [encN, encN2]) 100 (fun F hF hG => ?_)
  simp only [Try.f17, pl17, ΓN, onNat, allN, sigN, ren, rens, decN, decN2, lix, lof, lln, el0, el1, ivn, cellOf, lstF, nodupB, encN, encN2, Nod.add, Nod.room, hx', ri, rb, renB, rens, ren, sig, subH, updH, eng, litSt, srunA_nil, srunA_b, stepR, contB_mk, r0, regC, sop, unw, strip, sev, tg, tset, tput, undefs, needs, opNeeds, sBin, ibin, shiftOp, gdst, onth, selC, sLoad, sStore, sNil, sField, sNew, sAlloc, sFill, sBuild, sCall, sUn, cellsAt, hget, hset, hd1, vcells, one, whole, splice, holeAt, idxAt, pushAt, nth, drawSt, preL, chkL, stp, nxtB_mk, pref_0, pref_b, allocOp, holes, List.length_cons, List.length_nil, List.cons_append, List.nil_append, List.append_nil, List.map_cons, List.map_nil, List.take_succ_cons, List.take_zero, List.drop_succ_cons, List.drop_zero, List.drop_nil, List.all_cons, List.all_nil, List.contains_cons, List.contains_nil, List.getElem?_cons_zero, List.getElem?_cons_succ, List.getElem?_nil, true_and, and_self, or_true, not_false_eq_true, eq_self, ne_eq, Bool.false_eq_true, Bool.not_true, Bool.not_false, Bool.or_false, Bool.and_self, Nat.zero_add, Nat.add_zero, Nat.le_refl, Option.getD_some, Option.getD_none, reduceCtorEq, Value.oneCell', Nat.reduceAdd, Nat.reduceSub, Nat.reduceLT, Nat.reduceLeDiff, Nat.reduceBEq, tk3, ts3, ta3, tk41, ts41, tz41, tpl41, tf85_0, tf96_0, tf96_2, tf96_5, tf96_6]
  cases h : decide (x.last = 1099511627776) with
  | true =>
    simp only []
    exact hG [0, 1, 1] _ _ _ ⟨trivial, rfl, by simp only [Try.f17, encN, encN2, Nod.ask, Nod.askW, Nod.full, word, h, ri, rb, renR, renJ, renJs, mvH, hgetO, memB, posG, jp, renJB, retP, sResults, sRes1, resK, retV, vwk, vwks, vwk1, hwk, bwk, sc, scs, tg, sLoad, cellsAt, hget, List.length_cons, List.length_nil, List.take_succ_cons, List.take_nil, List.drop_zero, and_self, implies_true, eq_self, Bool.and_self, decide_true, decide_false, Nat.zero_add, Nat.le_refl, reduceCtorEq, ↓reduceIte, Nat.reduceAdd, Nat.reduceLT, Nat.reduceLeDiff, tk41, ts41, ta41]⟩
  | false =>
    simp only []
    exact hG [0, 1, 3] _ _ _ ⟨trivial, rfl, by simp only [Try.f17, encN, encN2, Nod.ask, Nod.askW, Nod.full, Nod.add, word, h, ri, rb, renR, renJ, renJs, mvH, hgetO, memB, posG, jp, renJB, retP, sResults, sRes1, resK, retV, vwk, vwks, vwk1, hwk, bwk, sc, scs, tg, sLoad, cellsAt, hget, List.length_cons, List.length_nil, List.take_succ_cons, List.take_nil, List.drop_zero, and_self, implies_true, eq_self, Bool.false_eq_true, Bool.and_self, decide_true, decide_false, Nat.zero_add, Nat.le_refl, reduceCtorEq, ↓reduceIte, Nat.reduceAdd, Nat.reduceLT, Nat.reduceLeDiff, Nat.reduceEqDiff, tk41, ts41, ta41]⟩

end Go.Proofs.Ytmnpnnegnlhemaa.Eng
