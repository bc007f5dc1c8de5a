/- The opening example of the command laws is true, by the engine. -/
import Derived.Test.YtmnpnnegnlhemaaCm
import Derived.Test.YtmnpnnegnlhemaaCo
namespace Go.Proofs.Ytmnpnnegnlhemaa.Eng
open Go

theorem aw1 : wt 10 100 = 12 := by rfl
theorem aw2 : wte 10 100 = 0 := by rfl
theorem aw3 : cenOk 2 10 100 = true := by rfl
theorem aw4 : nodeOk 1 10 = true := by rfl
theorem aw5 : nodeOk 2 10 = true := by rfl
theorem aw6 : newC 2 10 100 = ⟨0, 0, 0, 0, 12, 0, 3, fun _ => 0⟩ := by rfl
theorem aw7 : newN 1 10 = ⟨0, 1, 10, 0, 0, 0, 0, fun _ => 0, fun _ => 0⟩ := by rfl
theorem aw8 : newN 2 10 = ⟨0, 2, 10, 0, 0, 0, 0, fun _ => 0, fun _ => 0⟩ := by rfl
theorem aw9 : Cen.holds ⟨0, 0, 0, 0, 12, 0, 3, fun _ => 0⟩ = true := by rfl
theorem aw10 : Nod.holds ⟨0, 1, 10, 0, 0, 0, 0, fun _ => 0, fun _ => 0⟩ = false := by rfl
theorem aw11 : Cen.want ⟨0, 0, 0, 0, 12, 0, 3, fun _ => 0⟩ 1 = ⟨0, 0, 0, 0, 12, 1, 3, fun _ => 0⟩ := by rfl
theorem aw12 : Nod.ask ⟨0, 1, 10, 0, 0, 0, 0, fun _ => 0, fun _ => 0⟩ = ⟨0, 1, 10, 0, 1, 0, 1, fun _ => 1, fun _ => 0⟩ := by
  have w1 : IntKind.i64.wrap 1 = 1 := by decide
  simp [Nod.ask, Nod.full, Nod.add, w1]
theorem aw13 : Nod.askA ⟨0, 1, 10, 0, 0, 0, 0, fun _ => 0, fun _ => 0⟩ = .tup [word 1 1 1, ri 0] := by rfl
theorem aw14 : Cen.ans ⟨0, 0, 0, 0, 12, 1, 3, fun _ => 0⟩ 1 1 1 = .tup [word 2 1 1, ri 0] := by rfl
theorem aw15 : Cen.hear ⟨0, 0, 0, 0, 12, 1, 3, fun _ => 0⟩ 1 1 1 = ⟨0, 1, 1, 0, 12, 1, 3, fun j => if j = 1 then 1 else 0⟩ := by rfl
theorem aw16 : Nod.hear ⟨0, 1, 10, 0, 1, 0, 1, fun _ => 1, fun _ => 0⟩ 2 1 1 = ⟨0, 1, 10, 10, 1, 1, 0, fun _ => 1, fun _ => 0⟩ := by rfl
theorem aw17 : Nod.hearE ⟨0, 1, 10, 0, 1, 0, 1, fun _ => 1, fun _ => 0⟩ 2 1 1 = 0 := by rfl
theorem aw18 : Nod.ask ⟨0, 2, 10, 0, 0, 0, 0, fun _ => 0, fun _ => 0⟩ = ⟨0, 2, 10, 0, 1, 0, 1, fun _ => 1, fun _ => 0⟩ := by
  have w1 : IntKind.i64.wrap 1 = 1 := by decide
  simp [Nod.ask, Nod.full, Nod.add, w1]
theorem aw19 : Nod.askA ⟨0, 2, 10, 0, 0, 0, 0, fun _ => 0, fun _ => 0⟩ = .tup [word 1 2 1, ri 0] := by rfl
theorem aw20 : Cen.ans ⟨0, 1, 1, 0, 12, 1, 3, fun j => if j = 1 then 1 else 0⟩ 1 2 1 = .tup [word 0 0 0, ri 0] := by rfl
theorem aw21 : Cen.hear ⟨0, 1, 1, 0, 12, 1, 3, fun j => if j = 1 then 1 else 0⟩ 1 2 1 = ⟨0, 1, 1, 0, 12, 1, 3, fun j => if j = 2 then 1 else if j = 1 then 1 else 0⟩ := by rfl
theorem aw22 : Nod.holds ⟨0, 1, 10, 10, 1, 1, 0, fun _ => 1, fun _ => 0⟩ = true := by rfl
theorem aw23 : Cen.holds ⟨0, 1, 1, 0, 12, 1, 3, fun j => if j = 2 then 1 else if j = 1 then 1 else 0⟩ = false := by rfl
theorem aw24 : Nod.holds ⟨0, 2, 10, 0, 1, 0, 1, fun _ => 1, fun _ => 0⟩ = false := by rfl
theorem aw25 : Nod.retA ⟨0, 1, 10, 10, 1, 1, 0, fun _ => 1, fun _ => 0⟩ = .tup [word 3 1 1, ri 0] := by rfl
theorem aw26 : Nod.ret ⟨0, 1, 10, 10, 1, 1, 0, fun _ => 1, fun _ => 0⟩ = ⟨0, 1, 10, 0, 1, 0, 0, fun _ => 1, fun _ => 0⟩ := by rfl
theorem aw27 : Nod.holds ⟨0, 1, 10, 0, 1, 0, 0, fun _ => 1, fun _ => 0⟩ = false := by rfl
theorem aw28 : Cen.hear ⟨0, 1, 1, 0, 12, 1, 3, fun j => if j = 2 then 1 else if j = 1 then 1 else 0⟩ 3 1 1 = ⟨0, 0, 0, 0, 12, 1, 3, fun j => if j = 1 then 1 else if j = 2 then 1 else if j = 1 then 1 else 0⟩ := by rfl
theorem aw29 : Cen.ans ⟨0, 1, 1, 0, 12, 1, 3, fun j => if j = 2 then 1 else if j = 1 then 1 else 0⟩ 3 1 1 = .tup [word 0 0 0, ri 0] := by rfl
theorem aw30 : Cen.holds ⟨0, 0, 0, 0, 12, 1, 3, fun j => if j = 1 then 1 else if j = 2 then 1 else if j = 1 then 1 else 0⟩ = true := by rfl

theorem aw31 : Cen.wantE ⟨0, 0, 0, 0, 12, 0, 3, fun _ => 0⟩ 1 = 0 := by rfl

theorem c13_aw (H : List AB) : c13 [.raw (.int .i64 2), .raw (.int .i64 10), .raw (.int .i64 100)] H = ⟨True, ren (sig [] H.length) (.tup [.ptr 0 0, ri 0]), updH (sig [] H.length) H [] (encC ⟨0, 0, 0, 0, 12, 0, 3, fun _ => 0⟩)⟩ := by
  simp only [c13, aw3, aw6]
theorem c14_aw1 (H : List AB) : c14 [.raw (.int .i64 1), .raw (.int .i64 10)] H = ⟨True, ren (sig [] H.length) (.tup [.ptr 0 0, ri 0]), updH (sig [] H.length) H [] (encN ⟨0, 1, 10, 0, 0, 0, 0, fun _ => 0, fun _ => 0⟩)⟩ := by
  simp only [c14, aw4, aw7]
theorem c14_aw2 (H : List AB) : c14 [.raw (.int .i64 2), .raw (.int .i64 10)] H = ⟨True, ren (sig [] H.length) (.tup [.ptr 0 0, ri 0]), updH (sig [] H.length) H [] (encN ⟨0, 2, 10, 0, 0, 0, 0, fun _ => 0, fun _ => 0⟩)⟩ := by
  simp only [c14, aw5, aw8]

def pl16 : Nat → Plan
  | _ => []
set_option maxHeartbeats 4000000 in
set_option maxRecDepth 100000 in
theorem ok16 (E : Addr → Option Value) : Ok Try.prog E 16 [] [] (rb true) [] := by
  refine ok_of_eng (pl := pl16) mixed (cM_sound E) Try.func16 rfl rfl (by kernel_rfl) (by simp) 200 (fun F hF => ?_)
  simp only [Try.f16, pl16, cM, c12, c13_aw, c14_aw1, c14_aw2, onC, onNat, noneC, allN, Nod.room, sigC, decC, decC2, sigN, decN, decN2, lix, mix, ivn, lof, lln, el0, el1, cellOf, lstN, lstF, nodupB, encC, encN, encN2, word, aw1, aw2, aw9, aw10, aw11, aw12, aw13, aw14, aw15, aw16, aw17, aw18, aw19, aw20, aw21, aw22, aw23, aw24, aw25, aw26, aw27, aw28, aw29, aw30, aw31, ri, rb, renB, rens, ren, renEnts, sig, subH, updH, eng, litSt, srunA_nil, srunA_b, stepR, contB_mk, r0, r1, r2, regC, sop, unw, strip, sev, tg, tset, tput, undefs, needs, opNeeds, sBin, ibin, shiftOp, gb, gslot, gdst, onth, wants, sPick, selC, sLoad, sStore, sExtract, sNew, sAlloc, sFill, sBuild, sCall, sUn, cellsAt, hget, hset, hd1, vcells, one, whole, splice, holeAt, idxAt, pushAt, nth, intsEq, List.length_cons, List.length_nil, List.cons_append, List.nil_append, List.append_nil, List.map_cons, List.map_nil, List.take_succ_cons, List.take_zero, List.take_nil, List.drop_succ_cons, List.drop_zero, List.drop_nil, List.all_cons, List.all_nil, List.contains_cons, List.contains_nil, List.getElem?_cons_zero, List.getElem?_cons_succ, List.getElem?_nil, true_and, and_true, and_self, or_true, implies_true, forall_const, eq_self, Bool.true_eq_false, Bool.false_eq_true, Bool.not_true, Bool.not_false, Bool.or_false, Bool.and_self, Bool.cond_true, Bool.cond_false, decide_true, Nat.zero_add, Nat.add_zero, Nat.sub_zero, Nat.le_refl, Option.getD_some, Option.getD_none, Value.oneCell', ↓reduceIte, Nat.reduceAdd, Nat.reduceSub, Nat.reduceLT, Nat.reduceLeDiff, Nat.reduceBEq, tp27, tp30, tk41, ts41, ta41, tz41, tpl41]
  exact ⟨seq41, seq41, hF _ _ _ ⟨trivial, by simp only [Try.f16, rb, retP, sResults, sRes1, resK, retV, vwk, vwk1, hwk, sc, tg, List.length_nil, and_self, eq_self, Nat.le_refl]⟩⟩

def c16 : List SV → List AB → Res
  | [], H => ⟨True, .raw (.bool true), H⟩
  | _, _ => no
theorem c16_sound {E : Addr → Option Value} {args : List SV} {H : List AB} (h : (c16 args H).pre) : Ok Try.prog E 16 args H (c16 args H).val (c16 args H).heap := by
  unfold c16 at h ⊢
  split at h
  · exact lift0 (ok16 E) (fun _ => rfl) rfl (fun _ => rfl) H
  · exact h.elim

end Go.Proofs.Ytmnpnnegnlhemaa.Eng
