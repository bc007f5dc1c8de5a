/- The contracts of lay, happen and holders in a world of 3 node(s) (printed by a small program). -/
import Derived.Test.YtmnpnnegnlhemaaGe
import Derived.Test.YtmnpnnegnlhemaaGd
namespace Go.Proofs.Ytmnpnnegnlhemaa.Eng
open Go

theorem etaL2 (w : Wd) (h2 : w.x2 = dN) : (⟨w.c, w.x0, w.x1, dN, w.sl, fun k => w.sk k, fun k => w.sn k, fun k => w.sm k, fun k => w.gap k, fun k => w.edge k, w.slow⟩ : Wd) = w := by
  cases w
  simp only at *
  subst h2; rfl
theorem cntI_e2 (w : Wd) : (⟨w.c, w.x0, w.x1, dN, w.sl, fun k => w.sk k, fun k => w.sn k, fun k => w.sm k, fun k => w.gap k, fun k => w.edge k, w.slow⟩ : Wd).cntI 2 = w.cntI 2 := rfl

def layOk2 (a b c : Int) : Prop := (IntKind.i64.wrap a).tmod 3 = 1 ∧ cenOk 2 (lT b) (lS0 c) = true ∧ nodeOk 1 (lT b) = true ∧ nodeOk 2 (lT b) = true
def c40_2 : List SV → List AB → Res
  | [.agg [.raw (.int .u8 a), .raw (.int .u8 b), .raw (.int .u8 c)]], H => ⟨layOk2 a b c, ren (sig [] H.length) (.tup [eW0_2 (lS0 c), rb true]), updH (sig [] H.length) H [] (hW2 (w0_2 (lT b) (lS0 c)))⟩
  | _, _ => no
theorem c40_2_sound {E : Addr → Option Value} {args : List SV} {H : List AB} (h : (c40_2 args H).pre) : Ok Try.prog E 40 args H (c40_2 args H).val (c40_2 args H).heap := by
  unfold c40_2 at h ⊢
  split at h
  · rename_i a b c
    have hl : layOk2 a b c := h
    obtain ⟨h1, h2, n0, n1⟩ := hl
    exact (ok40_2 E a b c (lT b) (lS0 c) h1 rfl rfl h2 n0 n1).frame H [] trivial List.nodup_nil rfl trivial
  · exact h.elim

def decU2 (H : List AB) (l : List SV) : Wd :=
  ⟨decC2 (hget H 0) (hget H 1), decN2 (hget H 7) (hget H (lix (tg l 2) + 1)), decN2 (hget H 9) (hget H (lix (tg l 2) + 2)), dN, lln (tg l 2), fun k => ivn (el0 (lstF (hget H (lix (tg l 2))) k)), fun k => ivn (el1 (lstF (hget H (lix (tg l 2))) k)), fun k => ivn (el2 (lstF (hget H (lix (tg l 2))) k)),
    fun k => ivn (hd1 (lstF (hget H 5) k)), fun k => ivn (hd1 (lstF (hget H 6) k)), ivn (tg l 5)⟩
/-- How many hold: the world lies at both ends of the heap. -/
def onHold2 (l : List SV) (H : List AB) : Res :=
  ⟨(((.agg l : SV) = eWs 2 (lix (tg l 2)) (decU2 H l) ∧ H = hU0_2 (lix (tg l 2)) (decU2 H l) ++ (H.drop 11).take (lix (tg l 2) - 11) ++ tU2 (decU2 H l)) ∧ 11 ≤ lix (tg l 2)) ∧ lix (tg l 2) ≤ H.length, .raw (.int .i64 ((decU2 H l).cntI 2)), H⟩
theorem hwk_hU2 (w : Wd) : hwk (hU2 w).length (hU2 w) (hU2 w) := by
  simp only [hU2, hU0_2, lS, encC, bN, lN, ri, rb, vwks, vwk1, hwk, bwk, sc, scs, scEnts, lg, List.length_cons, List.length_nil, List.cons_append, List.nil_append, true_and, and_true, and_self, implies_true, eq_self, Bool.and_self, decide_true, Nat.zero_add, Nat.le_refl, Nat.reduceAdd, Nat.reduceLT] <;> (and_intros <;> intro k hk <;> (rcases k with _ | _ | _ | k <;> first | rfl | omega))
theorem onHold2_sound {E : Addr → Option Value} {l : List SV} {H : List AB} (h : (onHold2 l H).pre) : Ok Try.prog E 42 [.agg l] H (onHold2 l H).val (onHold2 l H).heap := by
  obtain ⟨⟨⟨h1, h2⟩, h3⟩, h4⟩ := h
  show Ok Try.prog E 42 [.agg l] H (ri ((decU2 H l).cntI 2)) H
  have key := ok42_2 E (decU2 H l)
  have hX : ((H.drop 11).take (lix (tg l 2) - 11)).length = lix (tg l 2) - 11 := by
    rw [List.length_take, List.length_drop]; omega
  rw [h1]
  revert h4; revert h3; revert key; revert hX; revert h2
  generalize (H.drop 11).take (lix (tg l 2) - 11) = X
  generalize decU2 H l = w
  generalize lix (tg l 2) = n
  intro h2 hX key h3 h4
  have hn : n = 11 + X.length := by omega
  subst hn
  rw [h2]
  refine Ok.ends 11 (args' := [eWs 2 (11 + X.length) w]) (B := hU0_2 11 w) (N := tU2 w) (v := ri (w.cntI 2)) key X rfl rfl rfl (fun τ t1 t2 => ⟨?_, ?_, ?_, rfl⟩) (by simp only [scs, sc, eWs, ri]; rfl) (hwk_hU2 w)
  · have e := t2 0 (by simp [tU2])
    simp only [Nat.add_zero] at e
    simp only [rens, eWs, ren, ri, t1 0 (by decide), t1 3 (by decide), t1 5 (by decide), t1 6 (by decide), e]
  · have hp := ptrs2 τ (t1 7 (by decide)) (t1 9 (by decide))
    have e1 := t2 1 (by simp [tU2])
    have e2 := t2 2 (by simp [tU2])
    simp only [Nat.reduceAdd] at e1 e2
    simp only [hU0_2, encC, bN, ri, rb, List.cons_append, List.nil_append, List.map_cons, List.map_nil, renB, rens, ren, renEnts, hp, Nat.reduceAdd, t1 0 (by decide), t1 1 (by decide), t1 2 (by decide), e1, e2]
  · simp only [tU2, List.map_cons, List.map_nil, lS_ren, lN_ren]

/-- What the laws on worlds call. -/
def ΓV2 : Con := fun f args H => match f with
  | .func 40 => c40_2 args H
  | .func 41 => match args with
    | [.agg l, .agg [.raw (.int .u8 what), .raw (.int .u8 num)]] => onHap2 what num l H
    | _ => no
  | .func 42 => match args with
    | [.agg l] => onHold2 l H
    | _ => no
  | .func 16 => c16 args H
  | .func 39 => match args with
    | [.ptr 0 0] => cK (.func 39) [.ptr 0 0] H
    | args => cM (.func 39) args H
  | f => cK f args H
theorem ΓV2_sound (E : Addr → Option Value) : Con.Sound Try.prog E ΓV2 := by
  intro f args H h
  unfold ΓV2 at h ⊢
  split at h
  · exact c40_2_sound h
  · split at h
    · exact onHap2_sound h
    · exact h.elim
  · split at h
    · exact onHold2_sound h
    · exact h.elim
  · exact c16_sound h
  · split at h
    · exact cK_sound E _ _ H h
    · exact cM_sound E _ _ H h
  · exact cK_sound E f args H h
theorem run0_2 {T S : Int} (hT : 1 ≤ T ∧ T ≤ 12) (hS : 0 ≤ S ∧ S ≤ 1000) : Run 2 T S 0 (w0_2 T S) := by
  refine run0 hT hS _ rfl (fun k hk => ?_) (fun k h1 h3 => ?_) rfl rfl rfl rfl
  · have hk3 : k = 0 ∨ k = 1 := (by omega); rcases hk3 with rfl | rfl <;> rfl
  · have hk3 : k = 2 := (by omega); rcases hk3 with rfl <;> rfl
end Go.Proofs.Ytmnpnnegnlhemaa.Eng
namespace Go.Proofs.Ytmnpnnegnlhemaa.Eng
open Go

def hU0_3 (n : Nat) (w : Wd) : List AB := encC w.c ++ [.lst 3 1 (fun k => lg [[.ptr 7 0], [.ptr 9 0], [.ptr 11 0]] k) 30, .dead, .lst 3 1 (fun k => [ri (w.gap k)]) 3, .lst 3 1 (fun k => [ri (w.edge k)]) 3, bN w.x0 (n + 1), .dead, bN w.x1 (n + 2), .dead, bN w.x2 (n + 3), .dead]
def hU3 (w : Wd) : List AB := hU0_3 13 w ++ [lS w, lN w.x0, lN w.x1, lN w.x2]
def decV3 (H : List AB) (l : List SV) : Wd :=
  ⟨decC2 (hget H 0) (hget H 1), decN2 (hget H 7) (hget H 8), decN2 (hget H 9) (hget H 10), decN2 (hget H 11) (hget H 12), lln (tg l 2), fun k => ivn (el0 (lstF (hget H 4) k)), fun k => ivn (el1 (lstF (hget H 4) k)), fun k => ivn (el2 (lstF (hget H 4) k)),
    fun k => ivn (hd1 (lstF (hget H 5) k)), fun k => ivn (hd1 (lstF (hget H 6) k)), ivn (tg l 5)⟩
/-- A function of a world that lies first in the heap. -/
def onV3 (f : Wd → SV × Wd) (pre : Wd → Prop) (l : List SV) (H : List AB) : Res :=
  ⟨((.agg l : SV) = eW 3 (decV3 H l) ∧ H = hW3 (decV3 H l) ++ H.drop 13) ∧ pre (decV3 H l), (f (decV3 H l)).1, hW3 (f (decV3 H l)).2 ++ H.drop 13⟩
theorem onV3_sound {E : Addr → Option Value} {fn : FuncId} {args : List SV} {f : Wd → SV × Wd} {pre : Wd → Prop} {l : List SV} {H : List AB} (hok : ∀ w, pre w → Ok Try.prog E fn (eW 3 w :: args) (hW3 w) (f w).1 (hW3 (f w).2))
    (ha : ∀ τ : Nat → Nat, rens τ args = args) (hs : scs 13 args = true) (hv : ∀ w (τ : Nat → Nat), (∀ j, j < 13 → τ j = j) → ren τ (f w).1 = (f w).1) (h : (onV3 f pre l H).pre) : Ok Try.prog E fn (.agg l :: args) H (onV3 f pre l H).val (onV3 f pre l H).heap := by
  obtain ⟨⟨h1, h2⟩, h3⟩ := h
  have := extW3 (decV3 H l) (f (decV3 H l)).2 (H.drop 13) (hok _ h3) ha hs (hv _)
  rw [← h1, ← h2] at this
  exact this

def ΓX3 : Con := fun f args H => match f with
  | .func 56 => match args with
    | [.agg l] => onV3 (fun w => (.raw (.bool (w.may 3)), w)) (fun _ => True) l H
    | _ => no
  | f => cK f args H
theorem ΓX3_sound (E : Addr → Option Value) : Con.Sound Try.prog E ΓX3 := by
  intro f args H h
  unfold ΓX3 at h ⊢
  split at h
  · split at h
    · exact onV3_sound (args := []) (fun w _ => ok56_3 E w) (fun _ => rfl) rfl (fun _ _ _ => rfl) h
    · exact h.elim
  · exact cK_sound E f args H h

def t41_3 (i : Nat) : List SV := [.junk, .junk, .ptr 13 0, .ptr 14 0, .ptr 15 0] ++ junks 9 ++ [ri (i : Int)] ++ junks 215
def h41_3 (w : Wd) (i : Nat) : List AB := hW3 { w with gap := gapI w i } ++ [.cells [.ptr 0 0, .lst 3 1 0 3, .lst 4 3 0 w.sl, .lst 5 1 0 3, .lst 6 1 0 3, ri w.slow] 75, .dead, .cells [.raw (.pointer none), .raw (.slice none 0 0), .raw (.slice none 0 0), .raw (.slice none 0 0), .raw (.slice none 0 0), ri 0] 75]
theorem may_e3 (w : Wd) : (⟨w.c, w.x0, w.x1, w.x2, w.sl, fun k => w.sk k, fun k => w.sn k, fun k => w.sm k, fun k => w.gap k, fun k => w.edge k, w.slow⟩ : Wd).may 3 = w.may 3 := rfl

set_option maxHeartbeats 2000000 in
set_option maxRecDepth 100000 in
theorem ok41_3ask0 (E : Addr → Option Value) (w : Wd) (num : Int) (hn : (IntKind.i64.wrap num).tmod 3 = 0) (hx : w.x0.len ≤ 1000000) (hs : w.sl ≤ 1000000) : Ok Try.prog E 41 [eW 3 w, .agg [.raw (.int .u8 1), .raw (.int .u8 num)]] (hW3 w) (.tup [eWs 3 13 (w.askN 0), rb (w.askB 0)]) (hU3 (w.askN 0)) := by
  refine ok_of_engR (pl := pl41) mixed (ΓX3_sound E) Try.func41 rfl rfl (by kernel_rfl) (by simp [hW3, hU3, hU0_3, encC]) 200 (fun F _ hG => ?_)
  simp only [Try.f41, pl41, ΓX3, cK, cM, onNat, sigN, decN, decN2, ren, rens, lix, ivn, lof, lln, el0, el1, cellOf, lstF, nodupB, encC, encN, encN2, eW, hW3, bN, lN, lg, Nod.eta, Nod.room, cast3, ask_word, hn, hx, ri, rb, renB, rens, ren, sig, subH, updH, eng, litSt, srunA_nil, srunA_b, stepR, contB_mk, r0, regC, sop, unw, strip, sev, tg, tset, tput, undefs, needs, opNeeds, sBin, ibin, shiftOp, selC, sLoad, sStore, sExtract, sField, sIndex, sLen, sNew, sAlloc, sBox, sFill, sLit, sApp, sCall, sBuiltin, sConv, cellsAt, hget, hset, hd1, vcells, one, whole, splice, holeAt, idxAt, pushAt, zrep, tgt, src, allK, lg, List.length_cons, List.length_nil, List.cons_append, List.nil_append, List.append_nil, List.map_cons, List.map_nil, List.take_succ_cons, List.take_zero, List.take_nil, List.drop_succ_cons, List.drop_zero, List.drop_nil, List.all_cons, List.all_nil, List.contains_cons, List.contains_nil, List.getElem?_cons_zero, List.getElem?_cons_succ, List.getElem?_nil, true_and, and_true, and_self, or_true, not_false_eq_true, eq_self, ne_eq, Bool.false_eq_true, Bool.not_false, Bool.or_false, Bool.and_self, decide_true, Nat.zero_add, Nat.add_zero, Nat.zero_mul, Nat.one_mul, Nat.le_refl, Int.toNat_zero, Option.getD_some, Option.getD_none, reduceCtorEq, Value.oneCell', Nat.reduceAdd, Nat.reduceSub, Nat.reduceLT, Nat.reduceLeDiff, Nat.reduceBEq, Int.reduceLT, Int.reduceLE, Int.reduceEq, ti3, tk5, ta5, ti5, tk30, ts30, ta30, tk41, ts41, ta41, tb41, tz41, tk71, ta71, te71, tk72, ts72, ta72, te72, tk75, ts75, ta75, tz75, tf75_1, tf75_2, tf80_0, tf80_1]
  refine ⟨by omega, hG [0, 1, 2, 3, 4, 5, 6, 7, 8, 9, 10, 11, 12, 19, 16, 10, 12] _ _ _ ⟨trivial, rfl, ?_⟩⟩
  simp only [Try.f41, eWs, lS, hW3, hU3, hU0_3, encC, bN, lN, lg, Wd.askN, Wd.setN, Wd.nd, Wd.push, Wd.askB, ri, rb, renR, renJ, renJs, mvH, hgetO, memB, posG, jp, renJB, renJEnts, retP, sResults, sRes1, resK, retV, vwk, vwks, vwk1, hwk, bwk, sc, scs, scEnts, tg, sLoad, cellsAt, hget, app, lg, List.length_cons, List.length_nil, List.cons_append, List.nil_append, List.take_succ_cons, List.take_nil, List.drop_zero, true_and, and_true, and_self, implies_true, eq_self, Bool.and_self, decide_true, decide_false, Nat.zero_add, Nat.le_refl, reduceCtorEq, Nat.reduceAdd, Nat.reduceLT, Nat.reduceLeDiff, Nat.reduceEqDiff, tk75, ts75, ta75] <;> (and_intros <;> intro k hk <;> first | (rcases k with _ | _ | _ | k <;> first | rfl | omega) | (by_cases q : k < w.sl; (simp only [q, if_true, renJs, renJ]); (have : k - w.sl = 0 := (by omega); simp only [q, this, List.take_succ_cons, List.take_nil, List.drop_zero, eq_self, Nat.zero_mul, ↓reduceIte, renJs, renJ])))

set_option maxHeartbeats 2000000 in
set_option maxRecDepth 100000 in
theorem ok41_3ret0 (E : Addr → Option Value) (w : Wd) (num : Int) (hn : (IntKind.i64.wrap num).tmod 3 = 0) (hs : w.sl ≤ 1000000) (hz : decide (w.x0.ret3 = 0) = true) : Ok Try.prog E 41 [eW 3 w, .agg [.raw (.int .u8 2), .raw (.int .u8 num)]] (hW3 w) (.tup [eWs 3 13 (w.retN 0), rb (w.retB 0)]) (hU3 (w.retN 0)) := by
  refine ok_of_engR (pl := pl41) mixed (ΓX3_sound E) Try.func41 rfl rfl (by kernel_rfl) (by simp [hW3, hU3, hU0_3, encC]) 200 (fun F _ hG => ?_)
  have hz' : w.x0.ret3 = 0 := by simpa using hz
  simp only [Try.f41, pl41, ΓX3, cK, cM, onNat, allN, sigN, decN, decN2, ren, rens, lix, ivn, lof, lln, el0, el1, cellOf, lstF, nodupB, encC, encN, eW, hW3, bN, lN, lg, Nod.eta, cast3, ret_word, hn, hz, ri, rb, renB, rens, ren, sig, subH, updH, eng, litSt, srunA_nil, srunA_b, stepR, contB_mk, r0, r1, r2, regC, sop, unw, strip, sev, tg, tset, tput, undefs, needs, opNeeds, sBin, ibin, shiftOp, gb, gslot, gdst, onth, wants, sPick, selC, sLoad, sStore, sExtract, sField, sIndex, sLen, sNew, sAlloc, sBox, sFill, sLit, sApp, sCall, sBuiltin, sConv, cellsAt, hget, hset, hd1, vcells, one, whole, splice, holeAt, idxAt, pushAt, zrep, tgt, src, allK, lg, List.length_cons, List.length_nil, List.cons_append, List.nil_append, List.append_nil, List.map_cons, List.map_nil, List.take_succ_cons, List.take_zero, List.take_nil, List.drop_succ_cons, List.drop_zero, List.drop_nil, List.all_cons, List.all_nil, List.contains_cons, List.contains_nil, List.getElem?_cons_zero, List.getElem?_cons_succ, true_and, and_true, and_self, or_true, implies_true, imp_self, not_false_eq_true, eq_self, ne_eq, Bool.true_eq_false, Bool.false_eq_true, Bool.not_true, Bool.not_false, Bool.or_false, Bool.and_self, Bool.cond_true, decide_true, decide_false, Nat.zero_add, Nat.add_zero, Nat.zero_mul, Nat.one_mul, Nat.le_refl, Int.toNat_zero, Option.getD_some, reduceCtorEq, Value.oneCell', ↓reduceIte, Nat.reduceAdd, Nat.reduceSub, Nat.reduceLT, Nat.reduceLeDiff, Nat.reduceBEq, Int.reduceLT, Int.reduceLE, Int.reduceEq, ti3, tk5, ta5, ti5, tk30, ts30, ta30, tk41, ts41, ta41, tb41, tz41, tk71, ta71, te71, tk72, ts72, ta72, te72, tk75, ts75, ta75, tz75, tf75_1, tf75_2, tf80_0, tf80_1]
  refine ⟨by omega, hG [0, 1, 2, 3, 4, 5, 6, 7, 8, 9, 10, 11, 12, 18, 8, 10, 12] _ _ _ ⟨trivial, rfl, ?_⟩⟩
  simp only [Try.f41, eWs, lS, hW3, hU3, hU0_3, encC, bN, lN, lg, Wd.retN, Wd.setN, Wd.nd, Wd.push, Wd.retB, hz, ri, rb, renR, renJ, renJs, mvH, hgetO, memB, posG, jp, renJB, renJEnts, retP, sResults, sRes1, resK, retV, vwk, vwks, vwk1, hwk, bwk, sc, scs, scEnts, tg, sLoad, cellsAt, hget, app, lg, List.length_cons, List.length_nil, List.cons_append, List.nil_append, List.take_succ_cons, List.take_nil, List.drop_zero, true_and, and_true, and_self, implies_true, eq_self, Bool.and_self, decide_true, decide_false, Nat.zero_add, Nat.le_refl, reduceCtorEq, Nat.reduceAdd, Nat.reduceLT, Nat.reduceLeDiff, Nat.reduceEqDiff, tk75, ts75, ta75] <;> (and_intros <;> intro k hk <;> first | (rcases k with _ | _ | _ | k <;> first | rfl | omega) | (by_cases q : k < w.sl; (simp only [q, if_true, renJs, renJ]); (have : k - w.sl = 0 := (by omega); simp only [q, this, List.take_succ_cons, List.take_nil, List.drop_zero, eq_self, Nat.zero_mul, ↓reduceIte, renJs, renJ])))

set_option maxHeartbeats 2000000 in
set_option maxRecDepth 100000 in
theorem ok41_3rex0 (E : Addr → Option Value) (w : Wd) (num : Int) (hn : (IntKind.i64.wrap num).tmod 3 = 0) (hz : decide (w.x0.ret3 = 0) = false) : Ok Try.prog E 41 [eW 3 w, .agg [.raw (.int .u8 2), .raw (.int .u8 num)]] (hW3 w) (.tup [eWs 3 13 (w.retN 0), rb (w.retB 0)]) (hU3 (w.retN 0)) := by
  refine ok_of_engR (pl := pl41) mixed (ΓX3_sound E) Try.func41 rfl rfl (by kernel_rfl) (by simp [hW3, hU3, hU0_3, encC]) 200 (fun F _ hG => ?_)
  simp only [Try.f41, pl41, ΓX3, cK, cM, onNat, allN, sigN, decN, decN2, ren, rens, lix, ivn, lof, lln, el0, el1, cellOf, lstF, nodupB, encC, encN, eW, hW3, bN, lN, lg, Nod.eta, cast3, ret_word, hn, hz, ri, rb, renB, rens, ren, sig, subH, updH, eng, litSt, srunA_nil, srunA_b, stepR, contB_mk, r0, r1, r2, regC, sop, unw, strip, sev, tg, tset, tput, undefs, needs, opNeeds, sBin, ibin, shiftOp, gb, gslot, gdst, onth, wants, sPick, selC, sLoad, sStore, sExtract, sField, sIndex, sLen, sNew, sAlloc, sBox, sCall, sBuiltin, sConv, cellsAt, hget, hset, hd1, vcells, one, splice, holeAt, idxAt, pushAt, lg, List.length_cons, List.length_nil, List.cons_append, List.nil_append, List.append_nil, List.map_cons, List.map_nil, List.take_succ_cons, List.take_zero, List.take_nil, List.drop_succ_cons, List.drop_zero, List.drop_nil, List.all_cons, List.all_nil, List.contains_cons, List.contains_nil, List.getElem?_cons_zero, List.getElem?_cons_succ, true_and, and_self, or_true, implies_true, not_false_eq_true, eq_self, ne_eq, Bool.false_eq_true, Bool.not_false, Bool.or_false, Bool.and_self, Bool.cond_false, decide_true, decide_false, Nat.zero_add, Nat.add_zero, Nat.le_refl, Int.toNat_zero, Option.getD_some, reduceCtorEq, Value.oneCell', ↓reduceIte, Nat.reduceAdd, Nat.reduceSub, Nat.reduceLT, Nat.reduceLeDiff, Nat.reduceBEq, Int.reduceLT, Int.reduceLE, Int.reduceEq, ti3, tk5, ta5, ti5, tk30, ts30, ta30, tk41, ts41, tz41, tk71, ta71, te71, tk75, ts75, ta75, tz75, tf75_1, tf80_0, tf80_1]
  exact hG [0, 1, 2, 3, 4, 5, 6, 7, 8, 9, 10, 11, 12, 4, 8, 10, 12] _ _ _ ⟨trivial, rfl, by simp only [Try.f41, eWs, lS, hW3, hU3, hU0_3, encC, bN, lN, lg, Wd.retN, Wd.setN, Wd.nd, Wd.retB, hz, ri, rb, renR, renJ, renJs, mvH, hgetO, memB, posG, jp, renJB, renJEnts, retP, sResults, sRes1, resK, retV, vwk, vwks, vwk1, hwk, bwk, sc, scs, scEnts, tg, sLoad, cellsAt, hget, lg, List.length_cons, List.length_nil, List.cons_append, List.nil_append, List.take_succ_cons, List.take_nil, List.drop_zero, true_and, and_true, and_self, implies_true, eq_self, Bool.and_self, decide_true, decide_false, Nat.zero_add, Nat.le_refl, reduceCtorEq, Nat.reduceAdd, Nat.reduceLT, Nat.reduceLeDiff, Nat.reduceEqDiff, tk75, ts75, ta75] <;> (and_intros <;> intro k hk <;> (rcases k with _ | _ | _ | k <;> first | rfl | omega))⟩

set_option maxHeartbeats 2000000 in
set_option maxRecDepth 100000 in
theorem ok41_3brk0 (E : Addr → Option Value) (w : Wd) (num : Int) (hn : (IntKind.i64.wrap num).tmod 3 = 0) : Ok Try.prog E 41 [eW 3 w, .agg [.raw (.int .u8 3), .raw (.int .u8 num)]] (hW3 w) (.tup [eWs 3 13 (w.brkN 0), rb (true)]) (hU3 (w.brkN 0)) := by
  refine ok_of_engR (pl := pl41) mixed (ΓX3_sound E) Try.func41 rfl rfl (by kernel_rfl) (by simp [hW3, hU3, hU0_3, encC]) 200 (fun F _ hG => ?_)
  simp only [Try.f41, pl41, encC, eW, hW3, bN, lN, lg, cast3, hn, ri, rb, ↓eng_draw, eng, litSt, srunA_nil, srunA_b, stepR, contB_mk, r0, regC, sop, unw, strip, sev, tg, tset, tput, undefs, needs, opNeeds, sBin, ibin, shiftOp, selC, sLoad, sField, sLen, sNew, sAlloc, sBox, sBuiltin, sConv, cellsAt, hget, hd1, vcells, one, holeAt, idxAt, pushAt, lg, List.length_cons, List.length_nil, List.cons_append, List.nil_append, List.map_cons, List.map_nil, List.take_succ_cons, List.take_zero, List.take_nil, List.drop_succ_cons, List.drop_zero, List.all_cons, List.all_nil, true_and, and_self, or_true, not_false_eq_true, eq_self, ne_eq, Bool.false_eq_true, Bool.and_self, decide_true, decide_false, Nat.zero_add, Nat.add_zero, Nat.le_refl, reduceCtorEq, Value.oneCell', Nat.reduceAdd, Nat.reduceSub, Nat.reduceLeDiff, Int.reduceEq, ti3, tk5, ta5, ti5, tk71, ta71, te71, tz75, tf75_1, tf80_0, tf80_1]
  simp only [drawC_regC, ΓX3, cK, cM, onNat, allN, sigN, decN, decN2, ren, rens, lix, ivn, lof, lln, el0, el1, cellOf, lstF, nodupB, encN, Nod.eta, cast3, ri, rb, renB, rens, ren, sig, subH, updH, stepR, r0, regC, sop, unw, strip, sev, tg, tset, tput, needs, opNeeds, sBin, ibin, shiftOp, gdst, onth, sLoad, sStore, sField, sIndex, sCall, cellsAt, hget, hset, hd1, vcells, one, splice, drawSt, preL, chkL, chk, chk2, stp, nxtB_mk, pref_0, pref_b, hpOf, effAt, effOp, pureOp, readOp, allocOp, holes, List.length_cons, List.length_nil, List.nil_append, List.append_nil, List.map_cons, List.map_nil, List.take_succ_cons, List.take_zero, List.take_nil, List.drop_succ_cons, List.drop_zero, List.drop_nil, List.all_cons, List.all_nil, List.contains_cons, List.contains_nil, List.getElem?_cons_zero, List.getElem?_cons_succ, true_and, and_self, or_true, not_false_eq_true, eq_self, ne_eq, Bool.false_eq_true, Bool.not_true, Bool.not_false, Bool.and_false, Bool.or_false, Bool.and_self, decide_true, Nat.zero_add, Nat.add_zero, Nat.le_refl, Int.toNat_zero, Option.getD_some, reduceCtorEq, Value.oneCell', Nat.reduceAdd, Nat.reduceSub, Nat.reduceLT, Nat.reduceLeDiff, Nat.reduceBEq, Int.reduceLT, Int.reduceLE, tk30, ts30, ta30, tk71, ta71, te71, tk75, ts75, ta75, tf75_1]
  exact hG [0, 1, 2, 3, 4, 5, 6, 7, 8, 9, 10, 11, 12, 4, 8, 10, 12] _ _ _ ⟨trivial, rfl, by simp only [Try.f41, eWs, lS, hW3, hU3, hU0_3, encC, bN, lN, lg, Wd.brkN, Wd.setN, Wd.nd, ri, rb, renR, renJ, renJs, mvH, hgetO, memB, posG, jp, renJB, renJEnts, retP, sResults, sRes1, resK, retV, vwk, vwks, vwk1, hwk, bwk, sc, scs, scEnts, tg, sLoad, cellsAt, hget, lg, List.length_cons, List.length_nil, List.cons_append, List.nil_append, List.take_succ_cons, List.take_nil, List.drop_zero, true_and, and_true, and_self, implies_true, eq_self, Bool.and_self, decide_true, decide_false, Nat.zero_add, Nat.le_refl, reduceCtorEq, Nat.reduceAdd, Nat.reduceLT, Nat.reduceLeDiff, Nat.reduceEqDiff, tk75, ts75, ta75] <;> (and_intros <;> intro k hk <;> (rcases k with _ | _ | _ | k <;> first | rfl | omega))⟩

set_option maxHeartbeats 2000000 in
set_option maxRecDepth 100000 in
theorem ok41_3tick0 (E : Addr → Option Value) (w : Wd) (num : Int) (wt : Int) (hn : (IntKind.i64.wrap num).tmod 3 = 0) (h1 : decide (wt = 1) = false) (h2 : decide (wt = 2) = false) (h3 : decide (wt = 3) = false) (h4 : decide (wt = 4) = false) (h5 : decide (wt = 5) = false) (h6 : decide (wt = 6) = false) (h7 : decide (wt = 7) = false) : Ok Try.prog E 41 [eW 3 w, .agg [.raw (.int .u8 wt), .raw (.int .u8 num)]] (hW3 w) (.tup [eWs 3 13 (w.tickN 0), rb (true)]) (hU3 (w.tickN 0)) := by
  refine ok_of_engR (pl := pl41) mixed (ΓX3_sound E) Try.func41 rfl rfl (by kernel_rfl) (by simp [hW3, hU3, hU0_3, encC]) 200 (fun F _ hG => ?_)
  simp only [Try.f41, pl41, ΓX3, cK, cM, onNat, allN, sigN, decN, decN2, ren, rens, lix, ivn, lof, lln, el0, el1, cellOf, lstF, nodupB, encC, encN, eW, hW3, bN, lN, lg, Nod.eta, cast3, hn, h1, h2, h3, h4, h5, h6, h7, ri, rb, renB, rens, ren, sig, subH, updH, eng, litSt, srunA_nil, srunA_b, stepR, contB_mk, r0, regC, sop, unw, strip, sev, tg, tset, tput, undefs, needs, opNeeds, sBin, ibin, shiftOp, gdst, onth, selC, sLoad, sStore, sMin, sField, sIndex, sLen, sNew, sAlloc, sBox, sCall, sBuiltin, sConv, cellsAt, hget, hset, hd1, vcells, one, splice, holeAt, idxAt, pushAt, drawSt, preL, chkL, chk, chk2, stp, nxtB_mk, pref_0, pref_b, hpOf, effAt, effOp, pureOp, readOp, allocOp, holes, lg, List.length_cons, List.length_nil, List.cons_append, List.nil_append, List.append_nil, List.map_cons, List.map_nil, List.take_succ_cons, List.take_zero, List.take_nil, List.drop_succ_cons, List.drop_zero, List.drop_nil, List.all_cons, List.all_nil, List.contains_cons, List.contains_nil, List.getElem?_cons_zero, List.getElem?_cons_succ, true_and, and_self, or_true, not_false_eq_true, eq_self, ne_eq, Bool.false_eq_true, Bool.not_true, Bool.not_false, Bool.and_false, Bool.or_false, Bool.and_self, decide_true, Nat.zero_add, Nat.add_zero, Nat.le_refl, Int.toNat_zero, Option.getD_some, reduceCtorEq, Value.oneCell', ↓reduceIte, Nat.reduceAdd, Nat.reduceSub, Nat.reduceLT, Nat.reduceLeDiff, Nat.reduceBEq, Int.reduceLT, Int.reduceLE, Int.reduceEq, tk3, ts3, ta3, ti3, tk5, ta5, ti5, tk30, ts30, ta30, tk71, ta71, te71, tk73, ta73, te73, tk75, ts75, ta75, tz75, tf75_1, tf75_3, tf75_4, tf75_5, tf80_0, tf80_1]
  exact hG [0, 1, 2, 3, 4, 5, 6, 7, 8, 9, 10, 11, 12, 4, 8, 10, 12] _ _ _ ⟨trivial, rfl, by simp only [Try.f41, eWs, lS, hW3, hU3, hU0_3, encC, bN, lN, lg, Wd.tickN, Wd.setN, Wd.nd, Wd.gapT, ri, rb, renR, renJ, renJs, mvH, hgetO, memB, posG, jp, renJB, renJEnts, retP, sResults, sRes1, resK, retV, vwk, vwks, vwk1, hwk, bwk, sc, scs, scEnts, tg, sLoad, cellsAt, hget, lg, List.length_cons, List.length_nil, List.cons_append, List.nil_append, List.take_succ_cons, List.take_nil, List.drop_zero, true_and, and_true, and_self, implies_true, eq_self, Bool.and_self, decide_true, decide_false, Nat.zero_add, Nat.le_refl, reduceCtorEq, Nat.reduceAdd, Nat.reduceLT, Nat.reduceLeDiff, Nat.reduceEqDiff, tk75, ts75, ta75] <;> (and_intros <;> intro k hk <;> (rcases k with _ | _ | _ | k <;> first | rfl | omega))⟩

set_option maxHeartbeats 2000000 in
set_option maxRecDepth 100000 in
theorem ok41_3ask1 (E : Addr → Option Value) (w : Wd) (num : Int) (hn : (IntKind.i64.wrap num).tmod 3 = 1) (hx : w.x1.len ≤ 1000000) (hs : w.sl ≤ 1000000) : Ok Try.prog E 41 [eW 3 w, .agg [.raw (.int .u8 1), .raw (.int .u8 num)]] (hW3 w) (.tup [eWs 3 13 (w.askN 1), rb (w.askB 1)]) (hU3 (w.askN 1)) := by
  refine ok_of_engR (pl := pl41) mixed (ΓX3_sound E) Try.func41 rfl rfl (by kernel_rfl) (by simp [hW3, hU3, hU0_3, encC]) 200 (fun F _ hG => ?_)
  simp only [Try.f41, pl41, ΓX3, cK, cM, onNat, sigN, decN, decN2, ren, rens, lix, ivn, lof, lln, el0, el1, cellOf, lstF, nodupB, encC, encN, encN2, eW, hW3, bN, lN, lg, Nod.eta, Nod.room, cast3, ask_word, hn, hx, ri, rb, renB, rens, ren, sig, subH, updH, eng, litSt, srunA_nil, srunA_b, stepR, contB_mk, r0, regC, sop, unw, strip, sev, tg, tset, tput, undefs, needs, opNeeds, sBin, ibin, shiftOp, selC, sLoad, sStore, sExtract, sField, sIndex, sLen, sNew, sAlloc, sBox, sFill, sLit, sApp, sCall, sBuiltin, sConv, cellsAt, hget, hset, hd1, vcells, one, whole, splice, holeAt, idxAt, pushAt, zrep, tgt, src, allK, lg, List.length_cons, List.length_nil, List.cons_append, List.nil_append, List.append_nil, List.map_cons, List.map_nil, List.take_succ_cons, List.take_zero, List.take_nil, List.drop_succ_cons, List.drop_zero, List.drop_nil, List.all_cons, List.all_nil, List.contains_cons, List.contains_nil, List.getElem?_cons_zero, List.getElem?_cons_succ, List.getElem?_nil, true_and, and_true, and_self, or_true, not_false_eq_true, eq_self, ne_eq, Bool.false_eq_true, Bool.not_false, Bool.or_false, Bool.and_self, decide_true, Nat.zero_add, Nat.add_zero, Nat.zero_mul, Nat.one_mul, Nat.le_refl, Option.getD_some, Option.getD_none, reduceCtorEq, Value.oneCell', Nat.reduceAdd, Nat.reduceSub, Nat.reduceLT, Nat.reduceLeDiff, Nat.reduceBEq, Int.reduceLT, Int.reduceLE, Int.reduceEq, Int.reduceToNat, ti3, tk5, ta5, ti5, tk30, ts30, ta30, tk41, ts41, ta41, tb41, tz41, tk71, ta71, te71, tk72, ts72, ta72, te72, tk75, ts75, ta75, tz75, tf75_1, tf75_2, tf80_0, tf80_1]
  refine ⟨by omega, hG [0, 1, 2, 3, 4, 5, 6, 7, 8, 9, 10, 11, 12, 19, 8, 16, 12] _ _ _ ⟨trivial, rfl, ?_⟩⟩
  simp only [Try.f41, eWs, lS, hW3, hU3, hU0_3, encC, bN, lN, lg, Wd.askN, Wd.setN, Wd.nd, Wd.push, Wd.askB, ri, rb, renR, renJ, renJs, mvH, hgetO, memB, posG, jp, renJB, renJEnts, retP, sResults, sRes1, resK, retV, vwk, vwks, vwk1, hwk, bwk, sc, scs, scEnts, tg, sLoad, cellsAt, hget, app, lg, List.length_cons, List.length_nil, List.cons_append, List.nil_append, List.take_succ_cons, List.take_nil, List.drop_zero, true_and, and_true, and_self, implies_true, eq_self, Bool.and_self, decide_true, decide_false, Nat.zero_add, Nat.le_refl, reduceCtorEq, Nat.reduceAdd, Nat.reduceLT, Nat.reduceLeDiff, Nat.reduceEqDiff, tk75, ts75, ta75] <;> (and_intros <;> intro k hk <;> first | (rcases k with _ | _ | _ | k <;> first | rfl | omega) | (by_cases q : k < w.sl; (simp only [q, if_true, renJs, renJ]); (have : k - w.sl = 0 := (by omega); simp only [q, this, List.take_succ_cons, List.take_nil, List.drop_zero, eq_self, Nat.zero_mul, ↓reduceIte, renJs, renJ])))

set_option maxHeartbeats 2000000 in
set_option maxRecDepth 100000 in
theorem ok41_3ret1 (E : Addr → Option Value) (w : Wd) (num : Int) (hn : (IntKind.i64.wrap num).tmod 3 = 1) (hs : w.sl ≤ 1000000) (hz : decide (w.x1.ret3 = 0) = true) : Ok Try.prog E 41 [eW 3 w, .agg [.raw (.int .u8 2), .raw (.int .u8 num)]] (hW3 w) (.tup [eWs 3 13 (w.retN 1), rb (w.retB 1)]) (hU3 (w.retN 1)) := by
  refine ok_of_engR (pl := pl41) mixed (ΓX3_sound E) Try.func41 rfl rfl (by kernel_rfl) (by simp [hW3, hU3, hU0_3, encC]) 200 (fun F _ hG => ?_)
  have hz' : w.x1.ret3 = 0 := by simpa using hz
  simp only [Try.f41, pl41, ΓX3, cK, cM, onNat, allN, sigN, decN, decN2, ren, rens, lix, ivn, lof, lln, el0, el1, cellOf, lstF, nodupB, encC, encN, eW, hW3, bN, lN, lg, Nod.eta, cast3, ret_word, hn, hz, ri, rb, renB, rens, ren, sig, subH, updH, eng, litSt, srunA_nil, srunA_b, stepR, contB_mk, r0, r1, r2, regC, sop, unw, strip, sev, tg, tset, tput, undefs, needs, opNeeds, sBin, ibin, shiftOp, gb, gslot, gdst, onth, wants, sPick, selC, sLoad, sStore, sExtract, sField, sIndex, sLen, sNew, sAlloc, sBox, sFill, sLit, sApp, sCall, sBuiltin, sConv, cellsAt, hget, hset, hd1, vcells, one, whole, splice, holeAt, idxAt, pushAt, zrep, tgt, src, allK, lg, List.length_cons, List.length_nil, List.cons_append, List.nil_append, List.append_nil, List.map_cons, List.map_nil, List.take_succ_cons, List.take_zero, List.take_nil, List.drop_succ_cons, List.drop_zero, List.drop_nil, List.all_cons, List.all_nil, List.contains_cons, List.contains_nil, List.getElem?_cons_zero, List.getElem?_cons_succ, true_and, and_true, and_self, or_true, implies_true, imp_self, not_false_eq_true, eq_self, ne_eq, Bool.true_eq_false, Bool.false_eq_true, Bool.not_true, Bool.not_false, Bool.or_false, Bool.and_self, Bool.cond_true, decide_true, decide_false, Nat.zero_add, Nat.add_zero, Nat.zero_mul, Nat.one_mul, Nat.le_refl, Option.getD_some, reduceCtorEq, Value.oneCell', ↓reduceIte, Nat.reduceAdd, Nat.reduceSub, Nat.reduceLT, Nat.reduceLeDiff, Nat.reduceBEq, Int.reduceLT, Int.reduceLE, Int.reduceEq, Int.reduceToNat, ti3, tk5, ta5, ti5, tk30, ts30, ta30, tk41, ts41, ta41, tb41, tz41, tk71, ta71, te71, tk72, ts72, ta72, te72, tk75, ts75, ta75, tz75, tf75_1, tf75_2, tf80_0, tf80_1]
  refine ⟨by omega, hG [0, 1, 2, 3, 4, 5, 6, 7, 8, 9, 10, 11, 12, 18, 8, 10, 12] _ _ _ ⟨trivial, rfl, ?_⟩⟩
  simp only [Try.f41, eWs, lS, hW3, hU3, hU0_3, encC, bN, lN, lg, Wd.retN, Wd.setN, Wd.nd, Wd.push, Wd.retB, hz, ri, rb, renR, renJ, renJs, mvH, hgetO, memB, posG, jp, renJB, renJEnts, retP, sResults, sRes1, resK, retV, vwk, vwks, vwk1, hwk, bwk, sc, scs, scEnts, tg, sLoad, cellsAt, hget, app, lg, List.length_cons, List.length_nil, List.cons_append, List.nil_append, List.take_succ_cons, List.take_nil, List.drop_zero, true_and, and_true, and_self, implies_true, eq_self, Bool.and_self, decide_true, decide_false, Nat.zero_add, Nat.le_refl, reduceCtorEq, Nat.reduceAdd, Nat.reduceLT, Nat.reduceLeDiff, Nat.reduceEqDiff, tk75, ts75, ta75] <;> (and_intros <;> intro k hk <;> first | (rcases k with _ | _ | _ | k <;> first | rfl | omega) | (by_cases q : k < w.sl; (simp only [q, if_true, renJs, renJ]); (have : k - w.sl = 0 := (by omega); simp only [q, this, List.take_succ_cons, List.take_nil, List.drop_zero, eq_self, Nat.zero_mul, ↓reduceIte, renJs, renJ])))

set_option maxHeartbeats 2000000 in
set_option maxRecDepth 100000 in
theorem ok41_3rex1 (E : Addr → Option Value) (w : Wd) (num : Int) (hn : (IntKind.i64.wrap num).tmod 3 = 1) (hz : decide (w.x1.ret3 = 0) = false) : Ok Try.prog E 41 [eW 3 w, .agg [.raw (.int .u8 2), .raw (.int .u8 num)]] (hW3 w) (.tup [eWs 3 13 (w.retN 1), rb (w.retB 1)]) (hU3 (w.retN 1)) := by
  refine ok_of_engR (pl := pl41) mixed (ΓX3_sound E) Try.func41 rfl rfl (by kernel_rfl) (by simp [hW3, hU3, hU0_3, encC]) 200 (fun F _ hG => ?_)
  simp only [Try.f41, pl41, ΓX3, cK, cM, onNat, allN, sigN, decN, decN2, ren, rens, lix, ivn, lof, lln, el0, el1, cellOf, lstF, nodupB, encC, encN, eW, hW3, bN, lN, lg, Nod.eta, cast3, ret_word, hn, hz, ri, rb, renB, rens, ren, sig, subH, updH, eng, litSt, srunA_nil, srunA_b, stepR, contB_mk, r0, r1, r2, regC, sop, unw, strip, sev, tg, tset, tput, undefs, needs, opNeeds, sBin, ibin, shiftOp, gb, gslot, gdst, onth, wants, sPick, selC, sLoad, sStore, sExtract, sField, sIndex, sLen, sNew, sAlloc, sBox, sCall, sBuiltin, sConv, cellsAt, hget, hset, hd1, vcells, one, splice, holeAt, idxAt, pushAt, lg, List.length_cons, List.length_nil, List.cons_append, List.nil_append, List.append_nil, List.map_cons, List.map_nil, List.take_succ_cons, List.take_zero, List.take_nil, List.drop_succ_cons, List.drop_zero, List.drop_nil, List.all_cons, List.all_nil, List.contains_cons, List.contains_nil, List.getElem?_cons_zero, List.getElem?_cons_succ, true_and, and_self, or_true, implies_true, not_false_eq_true, eq_self, ne_eq, Bool.false_eq_true, Bool.not_false, Bool.or_false, Bool.and_self, Bool.cond_false, decide_true, decide_false, Nat.zero_add, Nat.add_zero, Nat.le_refl, Option.getD_some, reduceCtorEq, Value.oneCell', ↓reduceIte, Nat.reduceAdd, Nat.reduceSub, Nat.reduceLT, Nat.reduceLeDiff, Nat.reduceBEq, Int.reduceLT, Int.reduceLE, Int.reduceEq, Int.reduceToNat, ti3, tk5, ta5, ti5, tk30, ts30, ta30, tk41, ts41, tz41, tk71, ta71, te71, tk75, ts75, ta75, tz75, tf75_1, tf80_0, tf80_1]
  exact hG [0, 1, 2, 3, 4, 5, 6, 7, 8, 9, 10, 11, 12, 4, 8, 10, 12] _ _ _ ⟨trivial, rfl, by simp only [Try.f41, eWs, lS, hW3, hU3, hU0_3, encC, bN, lN, lg, Wd.retN, Wd.setN, Wd.nd, Wd.retB, hz, ri, rb, renR, renJ, renJs, mvH, hgetO, memB, posG, jp, renJB, renJEnts, retP, sResults, sRes1, resK, retV, vwk, vwks, vwk1, hwk, bwk, sc, scs, scEnts, tg, sLoad, cellsAt, hget, lg, List.length_cons, List.length_nil, List.cons_append, List.nil_append, List.take_succ_cons, List.take_nil, List.drop_zero, true_and, and_true, and_self, implies_true, eq_self, Bool.and_self, decide_true, decide_false, Nat.zero_add, Nat.le_refl, reduceCtorEq, Nat.reduceAdd, Nat.reduceLT, Nat.reduceLeDiff, Nat.reduceEqDiff, tk75, ts75, ta75] <;> (and_intros <;> intro k hk <;> (rcases k with _ | _ | _ | k <;> first | rfl | omega))⟩

set_option maxHeartbeats 2000000 in
set_option maxRecDepth 100000 in
theorem ok41_3brk1 (E : Addr → Option Value) (w : Wd) (num : Int) (hn : (IntKind.i64.wrap num).tmod 3 = 1) : Ok Try.prog E 41 [eW 3 w, .agg [.raw (.int .u8 3), .raw (.int .u8 num)]] (hW3 w) (.tup [eWs 3 13 (w.brkN 1), rb (true)]) (hU3 (w.brkN 1)) := by
  refine ok_of_engR (pl := pl41) mixed (ΓX3_sound E) Try.func41 rfl rfl (by kernel_rfl) (by simp [hW3, hU3, hU0_3, encC]) 200 (fun F _ hG => ?_)
  simp only [Try.f41, pl41, encC, eW, hW3, bN, lN, lg, cast3, hn, ri, rb, ↓eng_draw, eng, litSt, srunA_nil, srunA_b, stepR, contB_mk, r0, regC, sop, unw, strip, sev, tg, tset, tput, undefs, needs, opNeeds, sBin, ibin, shiftOp, selC, sLoad, sField, sLen, sNew, sAlloc, sBox, sBuiltin, sConv, cellsAt, hget, hd1, vcells, one, holeAt, idxAt, pushAt, lg, List.length_cons, List.length_nil, List.cons_append, List.nil_append, List.map_cons, List.map_nil, List.take_succ_cons, List.take_zero, List.take_nil, List.drop_succ_cons, List.drop_zero, List.all_cons, List.all_nil, true_and, and_self, or_true, not_false_eq_true, eq_self, ne_eq, Bool.false_eq_true, Bool.and_self, decide_true, decide_false, Nat.zero_add, Nat.add_zero, Nat.le_refl, reduceCtorEq, Value.oneCell', Nat.reduceAdd, Nat.reduceSub, Nat.reduceLeDiff, Int.reduceEq, ti3, tk5, ta5, ti5, tk71, ta71, te71, tz75, tf75_1, tf80_0, tf80_1]
  simp only [drawC_regC, ΓX3, cK, cM, onNat, allN, sigN, decN, decN2, ren, rens, lix, ivn, lof, lln, el0, el1, cellOf, lstF, nodupB, encN, Nod.eta, cast3, ri, rb, renB, rens, ren, sig, subH, updH, stepR, r0, regC, sop, unw, strip, sev, tg, tset, tput, needs, opNeeds, sBin, ibin, shiftOp, gdst, onth, sLoad, sStore, sField, sIndex, sCall, cellsAt, hget, hset, hd1, vcells, one, splice, drawSt, preL, chkL, chk, chk2, stp, nxtB_mk, pref_0, pref_b, hpOf, effAt, effOp, pureOp, readOp, allocOp, holes, List.length_cons, List.length_nil, List.nil_append, List.append_nil, List.map_cons, List.map_nil, List.take_succ_cons, List.take_zero, List.take_nil, List.drop_succ_cons, List.drop_zero, List.drop_nil, List.all_cons, List.all_nil, List.contains_cons, List.contains_nil, List.getElem?_cons_zero, List.getElem?_cons_succ, true_and, and_self, or_true, not_false_eq_true, eq_self, ne_eq, Bool.false_eq_true, Bool.not_true, Bool.not_false, Bool.and_false, Bool.or_false, Bool.and_self, decide_true, Nat.zero_add, Nat.add_zero, Nat.le_refl, Option.getD_some, reduceCtorEq, Value.oneCell', Nat.reduceAdd, Nat.reduceSub, Nat.reduceLT, Nat.reduceLeDiff, Nat.reduceBEq, Int.reduceLT, Int.reduceLE, Int.reduceToNat, tk30, ts30, ta30, tk71, ta71, te71, tk75, ts75, ta75, tf75_1]
  exact hG [0, 1, 2, 3, 4, 5, 6, 7, 8, 9, 10, 11, 12, 4, 8, 10, 12] _ _ _ ⟨trivial, rfl, by simp only [Try.f41, eWs, lS, hW3, hU3, hU0_3, encC, bN, lN, lg, Wd.brkN, Wd.setN, Wd.nd, ri, rb, renR, renJ, renJs, mvH, hgetO, memB, posG, jp, renJB, renJEnts, retP, sResults, sRes1, resK, retV, vwk, vwks, vwk1, hwk, bwk, sc, scs, scEnts, tg, sLoad, cellsAt, hget, lg, List.length_cons, List.length_nil, List.cons_append, List.nil_append, List.take_succ_cons, List.take_nil, List.drop_zero, true_and, and_true, and_self, implies_true, eq_self, Bool.and_self, decide_true, decide_false, Nat.zero_add, Nat.le_refl, reduceCtorEq, Nat.reduceAdd, Nat.reduceLT, Nat.reduceLeDiff, Nat.reduceEqDiff, tk75, ts75, ta75] <;> (and_intros <;> intro k hk <;> (rcases k with _ | _ | _ | k <;> first | rfl | omega))⟩

set_option maxHeartbeats 2000000 in
set_option maxRecDepth 100000 in
theorem ok41_3tick1 (E : Addr → Option Value) (w : Wd) (num : Int) (wt : Int) (hn : (IntKind.i64.wrap num).tmod 3 = 1) (h1 : decide (wt = 1) = false) (h2 : decide (wt = 2) = false) (h3 : decide (wt = 3) = false) (h4 : decide (wt = 4) = false) (h5 : decide (wt = 5) = false) (h6 : decide (wt = 6) = false) (h7 : decide (wt = 7) = false) : Ok Try.prog E 41 [eW 3 w, .agg [.raw (.int .u8 wt), .raw (.int .u8 num)]] (hW3 w) (.tup [eWs 3 13 (w.tickN 1), rb (true)]) (hU3 (w.tickN 1)) := by
  refine ok_of_engR (pl := pl41) mixed (ΓX3_sound E) Try.func41 rfl rfl (by kernel_rfl) (by simp [hW3, hU3, hU0_3, encC]) 200 (fun F _ hG => ?_)
  simp only [Try.f41, pl41, ΓX3, cK, cM, onNat, allN, sigN, decN, decN2, ren, rens, lix, ivn, lof, lln, el0, el1, cellOf, lstF, nodupB, encC, encN, eW, hW3, bN, lN, lg, Nod.eta, cast3, hn, h1, h2, h3, h4, h5, h6, h7, ri, rb, renB, rens, ren, sig, subH, updH, eng, litSt, srunA_nil, srunA_b, stepR, contB_mk, r0, regC, sop, unw, strip, sev, tg, tset, tput, undefs, needs, opNeeds, sBin, ibin, shiftOp, gdst, onth, selC, sLoad, sStore, sMin, sField, sIndex, sLen, sNew, sAlloc, sBox, sCall, sBuiltin, sConv, cellsAt, hget, hset, hd1, vcells, one, splice, holeAt, idxAt, pushAt, drawSt, preL, chkL, chk, chk2, stp, nxtB_mk, pref_0, pref_b, hpOf, effAt, effOp, pureOp, readOp, allocOp, holes, lg, List.length_cons, List.length_nil, List.cons_append, List.nil_append, List.append_nil, List.map_cons, List.map_nil, List.take_succ_cons, List.take_zero, List.take_nil, List.drop_succ_cons, List.drop_zero, List.drop_nil, List.all_cons, List.all_nil, List.contains_cons, List.contains_nil, List.getElem?_cons_zero, List.getElem?_cons_succ, true_and, and_self, or_true, not_false_eq_true, eq_self, ne_eq, Bool.false_eq_true, Bool.not_true, Bool.not_false, Bool.and_false, Bool.or_false, Bool.and_self, decide_true, Nat.zero_add, Nat.add_zero, Nat.le_refl, Option.getD_some, reduceCtorEq, Value.oneCell', ↓reduceIte, Nat.reduceAdd, Nat.reduceSub, Nat.reduceLT, Nat.reduceLeDiff, Nat.reduceBEq, Int.reduceLT, Int.reduceLE, Int.reduceEq, Int.reduceToNat, tk3, ts3, ta3, ti3, tk5, ta5, ti5, tk30, ts30, ta30, tk71, ta71, te71, tk73, ta73, te73, tk75, ts75, ta75, tz75, tf75_1, tf75_3, tf75_4, tf75_5, tf80_0, tf80_1]
  exact hG [0, 1, 2, 3, 4, 5, 6, 7, 8, 9, 10, 11, 12, 4, 8, 10, 12] _ _ _ ⟨trivial, rfl, by simp only [Try.f41, eWs, lS, hW3, hU3, hU0_3, encC, bN, lN, lg, Wd.tickN, Wd.setN, Wd.nd, Wd.gapT, ri, rb, renR, renJ, renJs, mvH, hgetO, memB, posG, jp, renJB, renJEnts, retP, sResults, sRes1, resK, retV, vwk, vwks, vwk1, hwk, bwk, sc, scs, scEnts, tg, sLoad, cellsAt, hget, lg, List.length_cons, List.length_nil, List.cons_append, List.nil_append, List.take_succ_cons, List.take_nil, List.drop_zero, true_and, and_true, and_self, implies_true, eq_self, Bool.and_self, decide_true, decide_false, Nat.zero_add, Nat.le_refl, reduceCtorEq, Nat.reduceAdd, Nat.reduceLT, Nat.reduceLeDiff, Nat.reduceEqDiff, tk75, ts75, ta75] <;> (and_intros <;> intro k hk <;> (rcases k with _ | _ | _ | k <;> first | rfl | omega))⟩

set_option maxHeartbeats 2000000 in
set_option maxRecDepth 100000 in
theorem ok41_3ask2 (E : Addr → Option Value) (w : Wd) (num : Int) (hn : (IntKind.i64.wrap num).tmod 3 = 2) (hx : w.x2.len ≤ 1000000) (hs : w.sl ≤ 1000000) : Ok Try.prog E 41 [eW 3 w, .agg [.raw (.int .u8 1), .raw (.int .u8 num)]] (hW3 w) (.tup [eWs 3 13 (w.askN 2), rb (w.askB 2)]) (hU3 (w.askN 2)) := by
  refine ok_of_engR (pl := pl41) mixed (ΓX3_sound E) Try.func41 rfl rfl (by kernel_rfl) (by simp [hW3, hU3, hU0_3, encC]) 200 (fun F _ hG => ?_)
  simp only [Try.f41, pl41, ΓX3, cK, cM, onNat, sigN, decN, decN2, ren, rens, lix, ivn, lof, lln, el0, el1, cellOf, lstF, nodupB, encC, encN, encN2, eW, hW3, bN, lN, lg, Nod.eta, Nod.room, cast3, ask_word, hn, hx, ri, rb, renB, rens, ren, sig, subH, updH, eng, litSt, srunA_nil, srunA_b, stepR, contB_mk, r0, regC, sop, unw, strip, sev, tg, tset, tput, undefs, needs, opNeeds, sBin, ibin, shiftOp, selC, sLoad, sStore, sExtract, sField, sIndex, sLen, sNew, sAlloc, sBox, sFill, sLit, sApp, sCall, sBuiltin, sConv, cellsAt, hget, hset, hd1, vcells, one, whole, splice, holeAt, idxAt, pushAt, zrep, tgt, src, allK, lg, List.length_cons, List.length_nil, List.cons_append, List.nil_append, List.append_nil, List.map_cons, List.map_nil, List.take_succ_cons, List.take_zero, List.take_nil, List.drop_succ_cons, List.drop_zero, List.drop_nil, List.all_cons, List.all_nil, List.contains_cons, List.contains_nil, List.getElem?_cons_zero, List.getElem?_cons_succ, List.getElem?_nil, true_and, and_true, and_self, or_true, not_false_eq_true, eq_self, ne_eq, Bool.false_eq_true, Bool.not_false, Bool.or_false, Bool.and_self, decide_true, Nat.zero_add, Nat.add_zero, Nat.zero_mul, Nat.one_mul, Nat.le_refl, Option.getD_some, Option.getD_none, reduceCtorEq, Value.oneCell', Nat.reduceAdd, Nat.reduceSub, Nat.reduceLT, Nat.reduceLeDiff, Nat.reduceBEq, Int.reduceLT, Int.reduceLE, Int.reduceEq, Int.reduceToNat, ti3, tk5, ta5, ti5, tk30, ts30, ta30, tk41, ts41, ta41, tb41, tz41, tk71, ta71, te71, tk72, ts72, ta72, te72, tk75, ts75, ta75, tz75, tf75_1, tf75_2, tf80_0, tf80_1]
  refine ⟨by omega, hG [0, 1, 2, 3, 4, 5, 6, 7, 8, 9, 10, 11, 12, 19, 8, 10, 16] _ _ _ ⟨trivial, rfl, ?_⟩⟩
  simp only [Try.f41, eWs, lS, hW3, hU3, hU0_3, encC, bN, lN, lg, Wd.askN, Wd.setN, Wd.nd, Wd.push, Wd.askB, ri, rb, renR, renJ, renJs, mvH, hgetO, memB, posG, jp, renJB, renJEnts, retP, sResults, sRes1, resK, retV, vwk, vwks, vwk1, hwk, bwk, sc, scs, scEnts, tg, sLoad, cellsAt, hget, app, lg, List.length_cons, List.length_nil, List.cons_append, List.nil_append, List.take_succ_cons, List.take_nil, List.drop_zero, true_and, and_true, and_self, implies_true, eq_self, Bool.and_self, decide_true, decide_false, Nat.zero_add, Nat.le_refl, reduceCtorEq, Nat.reduceAdd, Nat.reduceLT, Nat.reduceLeDiff, Nat.reduceEqDiff, tk75, ts75, ta75] <;> (and_intros <;> intro k hk <;> first | (rcases k with _ | _ | _ | k <;> first | rfl | omega) | (by_cases q : k < w.sl; (simp only [q, if_true, renJs, renJ]); (have : k - w.sl = 0 := (by omega); simp only [q, this, List.take_succ_cons, List.take_nil, List.drop_zero, eq_self, Nat.zero_mul, ↓reduceIte, renJs, renJ])))

set_option maxHeartbeats 2000000 in
set_option maxRecDepth 100000 in
theorem ok41_3ret2 (E : Addr → Option Value) (w : Wd) (num : Int) (hn : (IntKind.i64.wrap num).tmod 3 = 2) (hs : w.sl ≤ 1000000) (hz : decide (w.x2.ret3 = 0) = true) : Ok Try.prog E 41 [eW 3 w, .agg [.raw (.int .u8 2), .raw (.int .u8 num)]] (hW3 w) (.tup [eWs 3 13 (w.retN 2), rb (w.retB 2)]) (hU3 (w.retN 2)) := by
  refine ok_of_engR (pl := pl41) mixed (ΓX3_sound E) Try.func41 rfl rfl (by kernel_rfl) (by simp [hW3, hU3, hU0_3, encC]) 200 (fun F _ hG => ?_)
  have hz' : w.x2.ret3 = 0 := by simpa using hz
  simp only [Try.f41, pl41, ΓX3, cK, cM, onNat, allN, sigN, decN, decN2, ren, rens, lix, ivn, lof, lln, el0, el1, cellOf, lstF, nodupB, encC, encN, eW, hW3, bN, lN, lg, Nod.eta, cast3, ret_word, hn, hz, ri, rb, renB, rens, ren, sig, subH, updH, eng, litSt, srunA_nil, srunA_b, stepR, contB_mk, r0, r1, r2, regC, sop, unw, strip, sev, tg, tset, tput, undefs, needs, opNeeds, sBin, ibin, shiftOp, gb, gslot, gdst, onth, wants, sPick, selC, sLoad, sStore, sExtract, sField, sIndex, sLen, sNew, sAlloc, sBox, sFill, sLit, sApp, sCall, sBuiltin, sConv, cellsAt, hget, hset, hd1, vcells, one, whole, splice, holeAt, idxAt, pushAt, zrep, tgt, src, allK, lg, List.length_cons, List.length_nil, List.cons_append, List.nil_append, List.append_nil, List.map_cons, List.map_nil, List.take_succ_cons, List.take_zero, List.take_nil, List.drop_succ_cons, List.drop_zero, List.drop_nil, List.all_cons, List.all_nil, List.contains_cons, List.contains_nil, List.getElem?_cons_zero, List.getElem?_cons_succ, true_and, and_true, and_self, or_true, implies_true, imp_self, not_false_eq_true, eq_self, ne_eq, Bool.true_eq_false, Bool.false_eq_true, Bool.not_true, Bool.not_false, Bool.or_false, Bool.and_self, Bool.cond_true, decide_true, decide_false, Nat.zero_add, Nat.add_zero, Nat.zero_mul, Nat.one_mul, Nat.le_refl, Option.getD_some, reduceCtorEq, Value.oneCell', ↓reduceIte, Nat.reduceAdd, Nat.reduceSub, Nat.reduceLT, Nat.reduceLeDiff, Nat.reduceBEq, Int.reduceLT, Int.reduceLE, Int.reduceEq, Int.reduceToNat, ti3, tk5, ta5, ti5, tk30, ts30, ta30, tk41, ts41, ta41, tb41, tz41, tk71, ta71, te71, tk72, ts72, ta72, te72, tk75, ts75, ta75, tz75, tf75_1, tf75_2, tf80_0, tf80_1]
  refine ⟨by omega, hG [0, 1, 2, 3, 4, 5, 6, 7, 8, 9, 10, 11, 12, 18, 8, 10, 12] _ _ _ ⟨trivial, rfl, ?_⟩⟩
  simp only [Try.f41, eWs, lS, hW3, hU3, hU0_3, encC, bN, lN, lg, Wd.retN, Wd.setN, Wd.nd, Wd.push, Wd.retB, hz, ri, rb, renR, renJ, renJs, mvH, hgetO, memB, posG, jp, renJB, renJEnts, retP, sResults, sRes1, resK, retV, vwk, vwks, vwk1, hwk, bwk, sc, scs, scEnts, tg, sLoad, cellsAt, hget, app, lg, List.length_cons, List.length_nil, List.cons_append, List.nil_append, List.take_succ_cons, List.take_nil, List.drop_zero, true_and, and_true, and_self, implies_true, eq_self, Bool.and_self, decide_true, decide_false, Nat.zero_add, Nat.le_refl, reduceCtorEq, Nat.reduceAdd, Nat.reduceLT, Nat.reduceLeDiff, Nat.reduceEqDiff, tk75, ts75, ta75] <;> (and_intros <;> intro k hk <;> first | (rcases k with _ | _ | _ | k <;> first | rfl | omega) | (by_cases q : k < w.sl; (simp only [q, if_true, renJs, renJ]); (have : k - w.sl = 0 := (by omega); simp only [q, this, List.take_succ_cons, List.take_nil, List.drop_zero, eq_self, Nat.zero_mul, ↓reduceIte, renJs, renJ])))

set_option maxHeartbeats 2000000 in
set_option maxRecDepth 100000 in
theorem ok41_3rex2 (E : Addr → Option Value) (w : Wd) (num : Int) (hn : (IntKind.i64.wrap num).tmod 3 = 2) (hz : decide (w.x2.ret3 = 0) = false) : Ok Try.prog E 41 [eW 3 w, .agg [.raw (.int .u8 2), .raw (.int .u8 num)]] (hW3 w) (.tup [eWs 3 13 (w.retN 2), rb (w.retB 2)]) (hU3 (w.retN 2)) := by
  refine ok_of_engR (pl := pl41) mixed (ΓX3_sound E) Try.func41 rfl rfl (by kernel_rfl) (by simp [hW3, hU3, hU0_3, encC]) 200 (fun F _ hG => ?_)
  simp only [Try.f41, pl41, ΓX3, cK, cM, onNat, allN, sigN, decN, decN2, ren, rens, lix, ivn, lof, lln, el0, el1, cellOf, lstF, nodupB, encC, encN, eW, hW3, bN, lN, lg, Nod.eta, cast3, ret_word, hn, hz, ri, rb, renB, rens, ren, sig, subH, updH, eng, litSt, srunA_nil, srunA_b, stepR, contB_mk, r0, r1, r2, regC, sop, unw, strip, sev, tg, tset, tput, undefs, needs, opNeeds, sBin, ibin, shiftOp, gb, gslot, gdst, onth, wants, sPick, selC, sLoad, sStore, sExtract, sField, sIndex, sLen, sNew, sAlloc, sBox, sCall, sBuiltin, sConv, cellsAt, hget, hset, hd1, vcells, one, splice, holeAt, idxAt, pushAt, lg, List.length_cons, List.length_nil, List.cons_append, List.nil_append, List.append_nil, List.map_cons, List.map_nil, List.take_succ_cons, List.take_zero, List.take_nil, List.drop_succ_cons, List.drop_zero, List.drop_nil, List.all_cons, List.all_nil, List.contains_cons, List.contains_nil, List.getElem?_cons_zero, List.getElem?_cons_succ, true_and, and_self, or_true, implies_true, not_false_eq_true, eq_self, ne_eq, Bool.false_eq_true, Bool.not_false, Bool.or_false, Bool.and_self, Bool.cond_false, decide_true, decide_false, Nat.zero_add, Nat.add_zero, Nat.le_refl, Option.getD_some, reduceCtorEq, Value.oneCell', ↓reduceIte, Nat.reduceAdd, Nat.reduceSub, Nat.reduceLT, Nat.reduceLeDiff, Nat.reduceBEq, Int.reduceLT, Int.reduceLE, Int.reduceEq, Int.reduceToNat, ti3, tk5, ta5, ti5, tk30, ts30, ta30, tk41, ts41, tz41, tk71, ta71, te71, tk75, ts75, ta75, tz75, tf75_1, tf80_0, tf80_1]
  exact hG [0, 1, 2, 3, 4, 5, 6, 7, 8, 9, 10, 11, 12, 4, 8, 10, 12] _ _ _ ⟨trivial, rfl, by simp only [Try.f41, eWs, lS, hW3, hU3, hU0_3, encC, bN, lN, lg, Wd.retN, Wd.setN, Wd.nd, Wd.retB, hz, ri, rb, renR, renJ, renJs, mvH, hgetO, memB, posG, jp, renJB, renJEnts, retP, sResults, sRes1, resK, retV, vwk, vwks, vwk1, hwk, bwk, sc, scs, scEnts, tg, sLoad, cellsAt, hget, lg, List.length_cons, List.length_nil, List.cons_append, List.nil_append, List.take_succ_cons, List.take_nil, List.drop_zero, true_and, and_true, and_self, implies_true, eq_self, Bool.and_self, decide_true, decide_false, Nat.zero_add, Nat.le_refl, reduceCtorEq, Nat.reduceAdd, Nat.reduceLT, Nat.reduceLeDiff, Nat.reduceEqDiff, tk75, ts75, ta75] <;> (and_intros <;> intro k hk <;> (rcases k with _ | _ | _ | k <;> first | rfl | omega))⟩

set_option maxHeartbeats 2000000 in
set_option maxRecDepth 100000 in
theorem ok41_3brk2 (E : Addr → Option Value) (w : Wd) (num : Int) (hn : (IntKind.i64.wrap num).tmod 3 = 2) : Ok Try.prog E 41 [eW 3 w, .agg [.raw (.int .u8 3), .raw (.int .u8 num)]] (hW3 w) (.tup [eWs 3 13 (w.brkN 2), rb (true)]) (hU3 (w.brkN 2)) := by
  refine ok_of_engR (pl := pl41) mixed (ΓX3_sound E) Try.func41 rfl rfl (by kernel_rfl) (by simp [hW3, hU3, hU0_3, encC]) 200 (fun F _ hG => ?_)
  simp only [Try.f41, pl41, encC, eW, hW3, bN, lN, lg, cast3, hn, ri, rb, ↓eng_draw, eng, litSt, srunA_nil, srunA_b, stepR, contB_mk, r0, regC, sop, unw, strip, sev, tg, tset, tput, undefs, needs, opNeeds, sBin, ibin, shiftOp, selC, sLoad, sField, sLen, sNew, sAlloc, sBox, sBuiltin, sConv, cellsAt, hget, hd1, vcells, one, holeAt, idxAt, pushAt, lg, List.length_cons, List.length_nil, List.cons_append, List.nil_append, List.map_cons, List.map_nil, List.take_succ_cons, List.take_zero, List.take_nil, List.drop_succ_cons, List.drop_zero, List.all_cons, List.all_nil, true_and, and_self, or_true, not_false_eq_true, eq_self, ne_eq, Bool.false_eq_true, Bool.and_self, decide_true, decide_false, Nat.zero_add, Nat.add_zero, Nat.le_refl, reduceCtorEq, Value.oneCell', Nat.reduceAdd, Nat.reduceSub, Nat.reduceLeDiff, Int.reduceEq, ti3, tk5, ta5, ti5, tk71, ta71, te71, tz75, tf75_1, tf80_0, tf80_1]
  simp only [drawC_regC, ΓX3, cK, cM, onNat, allN, sigN, decN, decN2, ren, rens, lix, ivn, lof, lln, el0, el1, cellOf, lstF, nodupB, encN, Nod.eta, cast3, ri, rb, renB, rens, ren, sig, subH, updH, stepR, r0, regC, sop, unw, strip, sev, tg, tset, tput, needs, opNeeds, sBin, ibin, shiftOp, gdst, onth, sLoad, sStore, sField, sIndex, sCall, cellsAt, hget, hset, hd1, vcells, one, splice, drawSt, preL, chkL, chk, chk2, stp, nxtB_mk, pref_0, pref_b, hpOf, effAt, effOp, pureOp, readOp, allocOp, holes, List.length_cons, List.length_nil, List.nil_append, List.append_nil, List.map_cons, List.map_nil, List.take_succ_cons, List.take_zero, List.take_nil, List.drop_succ_cons, List.drop_zero, List.drop_nil, List.all_cons, List.all_nil, List.contains_cons, List.contains_nil, List.getElem?_cons_zero, List.getElem?_cons_succ, true_and, and_self, or_true, not_false_eq_true, eq_self, ne_eq, Bool.false_eq_true, Bool.not_true, Bool.not_false, Bool.and_false, Bool.or_false, Bool.and_self, decide_true, Nat.zero_add, Nat.add_zero, Nat.le_refl, Option.getD_some, reduceCtorEq, Value.oneCell', Nat.reduceAdd, Nat.reduceSub, Nat.reduceLT, Nat.reduceLeDiff, Nat.reduceBEq, Int.reduceLT, Int.reduceLE, Int.reduceToNat, tk30, ts30, ta30, tk71, ta71, te71, tk75, ts75, ta75, tf75_1]
  exact hG [0, 1, 2, 3, 4, 5, 6, 7, 8, 9, 10, 11, 12, 4, 8, 10, 12] _ _ _ ⟨trivial, rfl, by simp only [Try.f41, eWs, lS, hW3, hU3, hU0_3, encC, bN, lN, lg, Wd.brkN, Wd.setN, Wd.nd, ri, rb, renR, renJ, renJs, mvH, hgetO, memB, posG, jp, renJB, renJEnts, retP, sResults, sRes1, resK, retV, vwk, vwks, vwk1, hwk, bwk, sc, scs, scEnts, tg, sLoad, cellsAt, hget, lg, List.length_cons, List.length_nil, List.cons_append, List.nil_append, List.take_succ_cons, List.take_nil, List.drop_zero, true_and, and_true, and_self, implies_true, eq_self, Bool.and_self, decide_true, decide_false, Nat.zero_add, Nat.le_refl, reduceCtorEq, Nat.reduceAdd, Nat.reduceLT, Nat.reduceLeDiff, Nat.reduceEqDiff, tk75, ts75, ta75] <;> (and_intros <;> intro k hk <;> (rcases k with _ | _ | _ | k <;> first | rfl | omega))⟩

set_option maxHeartbeats 2000000 in
set_option maxRecDepth 100000 in
theorem ok41_3tick2 (E : Addr → Option Value) (w : Wd) (num : Int) (wt : Int) (hn : (IntKind.i64.wrap num).tmod 3 = 2) (h1 : decide (wt = 1) = false) (h2 : decide (wt = 2) = false) (h3 : decide (wt = 3) = false) (h4 : decide (wt = 4) = false) (h5 : decide (wt = 5) = false) (h6 : decide (wt = 6) = false) (h7 : decide (wt = 7) = false) : Ok Try.prog E 41 [eW 3 w, .agg [.raw (.int .u8 wt), .raw (.int .u8 num)]] (hW3 w) (.tup [eWs 3 13 (w.tickN 2), rb (true)]) (hU3 (w.tickN 2)) := by
  refine ok_of_engR (pl := pl41) mixed (ΓX3_sound E) Try.func41 rfl rfl (by kernel_rfl) (by simp [hW3, hU3, hU0_3, encC]) 200 (fun F _ hG => ?_)
  simp only [Try.f41, pl41, ΓX3, cK, cM, onNat, allN, sigN, decN, decN2, ren, rens, lix, ivn, lof, lln, el0, el1, cellOf, lstF, nodupB, encC, encN, eW, hW3, bN, lN, lg, Nod.eta, cast3, hn, h1, h2, h3, h4, h5, h6, h7, ri, rb, renB, rens, ren, sig, subH, updH, eng, litSt, srunA_nil, srunA_b, stepR, contB_mk, r0, regC, sop, unw, strip, sev, tg, tset, tput, undefs, needs, opNeeds, sBin, ibin, shiftOp, gdst, onth, selC, sLoad, sStore, sMin, sField, sIndex, sLen, sNew, sAlloc, sBox, sCall, sBuiltin, sConv, cellsAt, hget, hset, hd1, vcells, one, splice, holeAt, idxAt, pushAt, drawSt, preL, chkL, chk, chk2, stp, nxtB_mk, pref_0, pref_b, hpOf, effAt, effOp, pureOp, readOp, allocOp, holes, lg, List.length_cons, List.length_nil, List.cons_append, List.nil_append, List.append_nil, List.map_cons, List.map_nil, List.take_succ_cons, List.take_zero, List.take_nil, List.drop_succ_cons, List.drop_zero, List.drop_nil, List.all_cons, List.all_nil, List.contains_cons, List.contains_nil, List.getElem?_cons_zero, List.getElem?_cons_succ, true_and, and_self, or_true, not_false_eq_true, eq_self, ne_eq, Bool.false_eq_true, Bool.not_true, Bool.not_false, Bool.and_false, Bool.or_false, Bool.and_self, decide_true, Nat.zero_add, Nat.add_zero, Nat.le_refl, Option.getD_some, reduceCtorEq, Value.oneCell', ↓reduceIte, Nat.reduceAdd, Nat.reduceSub, Nat.reduceLT, Nat.reduceLeDiff, Nat.reduceBEq, Int.reduceLT, Int.reduceLE, Int.reduceEq, Int.reduceToNat, tk3, ts3, ta3, ti3, tk5, ta5, ti5, tk30, ts30, ta30, tk71, ta71, te71, tk73, ta73, te73, tk75, ts75, ta75, tz75, tf75_1, tf75_3, tf75_4, tf75_5, tf80_0, tf80_1]
  exact hG [0, 1, 2, 3, 4, 5, 6, 7, 8, 9, 10, 11, 12, 4, 8, 10, 12] _ _ _ ⟨trivial, rfl, by simp only [Try.f41, eWs, lS, hW3, hU3, hU0_3, encC, bN, lN, lg, Wd.tickN, Wd.setN, Wd.nd, Wd.gapT, ri, rb, renR, renJ, renJs, mvH, hgetO, memB, posG, jp, renJB, renJEnts, retP, sResults, sRes1, resK, retV, vwk, vwks, vwk1, hwk, bwk, sc, scs, scEnts, tg, sLoad, cellsAt, hget, lg, List.length_cons, List.length_nil, List.cons_append, List.nil_append, List.take_succ_cons, List.take_nil, List.drop_zero, true_and, and_true, and_self, implies_true, eq_self, Bool.and_self, decide_true, decide_false, Nat.zero_add, Nat.le_refl, reduceCtorEq, Nat.reduceAdd, Nat.reduceLT, Nat.reduceLeDiff, Nat.reduceEqDiff, tk75, ts75, ta75] <;> (and_intros <;> intro k hk <;> (rcases k with _ | _ | _ | k <;> first | rfl | omega))⟩

set_option maxHeartbeats 2000000 in
set_option maxRecDepth 100000 in
theorem ok41_3cb (E : Addr → Option Value) (w : Wd) (num : Int) (wt : Int) (h1 : decide (wt = 1) = false) (h2 : decide (wt = 2) = false) (h3 : decide (wt = 3) = false) (h4 : decide (wt = 4) = true) (nn : Int) (hn : (IntKind.i64.wrap num).tmod 3 = nn) : Ok Try.prog E 41 [eW 3 w, .agg [.raw (.int .u8 wt), .raw (.int .u8 num)]] (hW3 w) (.tup [eWs 3 13 ({ w with c := w.c.brk }), rb (true)]) (hU3 ({ w with c := w.c.brk })) := by
  refine ok_of_engR (pl := pl41) mixed (ΓX3_sound E) Try.func41 rfl rfl (by kernel_rfl) (by simp [hW3, hU3, hU0_3, encC]) 200 (fun F _ hG => ?_)
  simp only [Try.f41, pl41, encC, eW, hW3, bN, lN, lg, cast3, h1, h2, h3, h4, hn, ri, rb, ↓eng_draw, eng, litSt, srunA_nil, srunA_b, stepR, contB_mk, r0, regC, sop, unw, strip, sev, tg, tset, tput, undefs, needs, opNeeds, sBin, ibin, shiftOp, selC, sLoad, sField, sLen, sNew, sAlloc, sBox, sBuiltin, sConv, cellsAt, hget, hd1, vcells, one, holeAt, idxAt, pushAt, lg, List.length_cons, List.length_nil, List.cons_append, List.nil_append, List.map_cons, List.map_nil, List.take_succ_cons, List.take_zero, List.take_nil, List.drop_succ_cons, List.drop_zero, List.all_cons, List.all_nil, true_and, and_self, or_true, not_false_eq_true, eq_self, ne_eq, Bool.false_eq_true, Bool.and_self, Nat.zero_add, Nat.add_zero, Nat.le_refl, reduceCtorEq, Value.oneCell', Nat.reduceAdd, Nat.reduceSub, Nat.reduceLeDiff, Int.reduceEq, ti3, tk5, ta5, ti5, tk71, ta71, te71, tz75, tf75_1, tf80_0, tf80_1]
  simp only [drawC_regC, ΓX3, cK, onK, decC2, ivn, cellOf, lstN, lstF, encC, Cen.eta, ri, rb, stepR, r0, regC, sop, unw, strip, sev, tg, tset, tput, needs, opNeeds, sBin, ibin, shiftOp, gdst, onth, sLoad, sStore, sField, sCall, cellsAt, hget, hset, hd1, vcells, one, splice, drawSt, preL, chkL, chk, chk2, stp, nxtB_mk, pref_0, pref_b, hpOf, effAt, effOp, pureOp, readOp, allocOp, holes, List.length_cons, List.length_nil, List.cons_append, List.nil_append, List.append_nil, List.map_cons, List.map_nil, List.take_succ_cons, List.take_zero, List.take_nil, List.drop_succ_cons, List.drop_zero, List.drop_nil, List.all_cons, List.all_nil, true_and, and_self, or_true, not_false_eq_true, eq_self, ne_eq, Bool.false_eq_true, Bool.not_true, Bool.not_false, Bool.and_false, Bool.and_self, decide_true, Nat.zero_add, Nat.add_zero, Nat.le_refl, reduceCtorEq, Value.oneCell', Nat.reduceAdd, Nat.reduceLeDiff, tk27, ta27, tk75, ts75, ta75, tf75_0]
  exact hG [0, 1, 2, 3, 4, 5, 6, 7, 8, 9, 10, 11, 12, 4, 8, 10, 12] _ _ _ ⟨trivial, rfl, by simp only [Try.f41, eWs, lS, hW3, hU3, hU0_3, encC, bN, lN, lg, ri, rb, renR, renJ, renJs, mvH, hgetO, memB, posG, jp, renJB, renJEnts, retP, sResults, sRes1, resK, retV, vwk, vwks, vwk1, hwk, bwk, sc, scs, scEnts, tg, sLoad, cellsAt, hget, lg, List.length_cons, List.length_nil, List.cons_append, List.nil_append, List.take_succ_cons, List.take_nil, List.drop_zero, true_and, and_true, and_self, implies_true, eq_self, Bool.and_self, decide_true, decide_false, Nat.zero_add, Nat.le_refl, reduceCtorEq, Nat.reduceAdd, Nat.reduceLT, Nat.reduceLeDiff, Nat.reduceEqDiff, tk75, ts75, ta75] <;> (and_intros <;> intro k hk <;> (rcases k with _ | _ | _ | k <;> first | rfl | omega))⟩

set_option maxHeartbeats 2000000 in
set_option maxRecDepth 100000 in
theorem ok41_3cw (E : Addr → Option Value) (w : Wd) (num : Int) (wt : Int) (h1 : decide (wt = 1) = false) (h2 : decide (wt = 2) = false) (h3 : decide (wt = 3) = false) (h4 : decide (wt = 4) = false) (h5 : decide (wt = 5) = true) (nn : Int) (hn : (IntKind.i64.wrap num).tmod 3 = nn) (mm : Int) (hm : (IntKind.i64.wrap num).tmod 4 = mm) : Ok Try.prog E 41 [eW 3 w, .agg [.raw (.int .u8 wt), .raw (.int .u8 num)]] (hW3 w) (.tup [eWs 3 13 ({ w with c := w.c.want mm }), rb (decide (w.c.wantE mm = 0))]) (hU3 ({ w with c := w.c.want mm })) := by
  refine ok_of_engR (pl := pl41) mixed (ΓX3_sound E) Try.func41 rfl rfl (by kernel_rfl) (by simp [hW3, hU3, hU0_3, encC]) 200 (fun F _ hG => ?_)
  have hp : IntKind.i64.wrap 4 = 4 := by decide
  have hp' : ¬ (4 : Int) = 0 := by decide
  simp only [Try.f41, pl41, encC, eW, hW3, bN, lN, lg, cast3, h1, h2, h3, h4, h5, hn, ri, rb, ↓eng_draw, eng, litSt, srunA_nil, srunA_b, stepR, contB_mk, r0, regC, sop, unw, strip, sev, tg, tset, tput, undefs, needs, opNeeds, sBin, ibin, shiftOp, selC, sLoad, sField, sLen, sNew, sAlloc, sBox, sBuiltin, sConv, cellsAt, hget, hd1, vcells, one, holeAt, idxAt, pushAt, lg, List.length_cons, List.length_nil, List.cons_append, List.nil_append, List.map_cons, List.map_nil, List.take_succ_cons, List.take_zero, List.take_nil, List.drop_succ_cons, List.drop_zero, List.all_cons, List.all_nil, true_and, and_self, or_true, not_false_eq_true, eq_self, ne_eq, Bool.false_eq_true, Bool.and_self, Nat.zero_add, Nat.add_zero, Nat.le_refl, reduceCtorEq, Value.oneCell', Nat.reduceAdd, Nat.reduceSub, Nat.reduceLeDiff, Int.reduceEq, ti3, tk5, ta5, ti5, tk71, ta71, te71, tz75, tf75_1, tf80_0, tf80_1]
  simp only [drawC_regC, ΓX3, cK, onK, decC2, ivn, cellOf, lstN, lstF, encC, Cen.eta, cast3, hp, hp', hm, not_false_eq_true, true_and, ri, rb, stepR, r0, regC, sop, unw, strip, sev, tg, tset, tput, needs, opNeeds, sBin, ibin, shiftOp, gdst, onth, sLoad, sStore, sField, sLen, sCall, sBuiltin, sConv, cellsAt, hget, hset, hd1, vcells, one, splice, drawSt, preL, chkL, chk, chk2, stp, nxtB_mk, pref_0, pref_b, hpOf, effAt, effOp, pureOp, readOp, allocOp, holes, List.length_cons, List.length_nil, List.cons_append, List.nil_append, List.append_nil, List.map_cons, List.map_nil, List.take_succ_cons, List.take_zero, List.take_nil, List.drop_succ_cons, List.drop_zero, List.drop_nil, List.all_cons, List.all_nil, true_and, and_self, or_true, not_false_eq_true, eq_self, ne_eq, Bool.false_eq_true, Bool.not_true, Bool.not_false, Bool.and_false, Bool.and_self, Nat.zero_add, Nat.add_zero, Nat.le_refl, reduceCtorEq, Value.oneCell', Nat.reduceAdd, Nat.reduceLeDiff, Int.reduceAdd, ti3, tk5, ta5, ti5, tk27, ta27, tk71, ta71, te71, tk75, ts75, ta75, tf75_0, tf75_1, tf80_1]
  exact hG [0, 1, 2, 3, 4, 5, 6, 7, 8, 9, 10, 11, 12, 4, 8, 10, 12] _ _ _ ⟨trivial, rfl, by simp only [Try.f41, eWs, lS, hW3, hU3, hU0_3, encC, bN, lN, lg, ri, rb, renR, renJ, renJs, mvH, hgetO, memB, posG, jp, renJB, renJEnts, retP, sResults, sRes1, resK, retV, vwk, vwks, vwk1, hwk, bwk, sc, scs, scEnts, tg, sLoad, cellsAt, hget, lg, List.length_cons, List.length_nil, List.cons_append, List.nil_append, List.take_succ_cons, List.take_nil, List.drop_zero, true_and, and_true, and_self, implies_true, eq_self, Bool.and_self, decide_true, decide_false, Nat.zero_add, Nat.le_refl, reduceCtorEq, Nat.reduceAdd, Nat.reduceLT, Nat.reduceLeDiff, Nat.reduceEqDiff, tk75, ts75, ta75] <;> (and_intros <;> intro k hk <;> (rcases k with _ | _ | _ | k <;> first | rfl | omega))⟩

set_option maxHeartbeats 2000000 in
set_option maxRecDepth 100000 in
theorem ok41_3he (E : Addr → Option Value) (w : Wd) (num : Int) (wt : Int) (h1 : decide (wt = 1) = false) (h2 : decide (wt = 2) = false) (h3 : decide (wt = 3) = false) (h4 : decide (wt = 4) = false) (h5 : decide (wt = 5) = false) (h6 : decide (wt = 6) = true) (nn : Int) (hn : (IntKind.i64.wrap num).tmod 3 = nn) (h0 : w.sl = 0) : Ok Try.prog E 41 [eW 3 w, .agg [.raw (.int .u8 wt), .raw (.int .u8 num)]] (hW3 w) (.tup [eWs 3 13 (w), rb (true)]) (hU3 (w)) := by
  refine ok_of_engR (pl := pl41) mixed (ΓX3_sound E) Try.func41 rfl rfl (by kernel_rfl) (by simp [hW3, hU3, hU0_3, encC]) 200 (fun F _ hG => ?_)
  simp only [Try.f41, pl41, encC, eW, hW3, bN, lN, lg, cast3, h1, h2, h3, h4, h5, h6, hn, h0, Int.natCast_zero, decide_true, ri, rb, eng, litSt, srunA_nil, srunA_b, stepR, contB_mk, r0, regC, sop, unw, strip, sev, tg, tset, tput, undefs, needs, opNeeds, sBin, ibin, shiftOp, selC, sLoad, sStore, sField, sLen, sNew, sAlloc, sBox, sBuiltin, sConv, cellsAt, hget, hset, hd1, vcells, one, splice, holeAt, idxAt, pushAt, lg, List.length_cons, List.length_nil, List.cons_append, List.nil_append, List.append_nil, List.map_cons, List.map_nil, List.take_succ_cons, List.take_zero, List.take_nil, List.drop_succ_cons, List.drop_zero, List.drop_nil, List.all_cons, List.all_nil, true_and, and_self, or_true, not_false_eq_true, eq_self, ne_eq, Bool.false_eq_true, Bool.and_self, decide_true, Nat.zero_add, Nat.add_zero, Nat.le_refl, reduceCtorEq, Value.oneCell', Nat.reduceAdd, Nat.reduceSub, Nat.reduceLeDiff, Int.reduceEq, ti3, tk5, ta5, ti5, tk71, ta71, te71, tk72, ta72, te72, tk75, ts75, ta75, tz75, tf75_1, tf75_2, tf80_0, tf80_1]
  exact hG [0, 1, 2, 3, 4, 5, 6, 7, 8, 9, 10, 11, 12, 4, 8, 10, 12] _ _ _ ⟨trivial, rfl, by simp only [Try.f41, eWs, lS, hW3, hU3, hU0_3, encC, bN, lN, lg, h0, ri, rb, renR, renJ, renJs, mvH, hgetO, memB, posG, jp, renJB, renJEnts, retP, sResults, sRes1, resK, retV, vwk, vwks, vwk1, hwk, bwk, sc, scs, scEnts, tg, sLoad, cellsAt, hget, lg, List.length_cons, List.length_nil, List.cons_append, List.nil_append, List.take_succ_cons, List.take_nil, List.drop_zero, true_and, and_true, and_self, implies_true, eq_self, Bool.and_self, decide_true, decide_false, Nat.zero_add, Nat.le_refl, reduceCtorEq, Nat.reduceAdd, Nat.reduceLT, Nat.reduceLeDiff, Nat.reduceEqDiff, tk75, ts75, ta75] <;> (and_intros <;> intro k hk <;> (rcases k with _ | _ | _ | k <;> first | rfl | omega))⟩

set_option maxHeartbeats 2000000 in
set_option maxRecDepth 100000 in
theorem ok41_3hn0 (E : Addr → Option Value) (w : Wd) (num : Int) (wt : Int) (h1 : decide (wt = 1) = false) (h2 : decide (wt = 2) = false) (h3 : decide (wt = 3) = false) (h4 : decide (wt = 4) = false) (h5 : decide (wt = 5) = false) (h6 : decide (wt = 6) = true) (nn : Int) (hn : (IntKind.i64.wrap num).tmod 3 = nn) (j : Nat) (hz : decide ((w.sl : Int) = 0) = false) (hj : j < w.sl) (hjn : (IntKind.i64.wrap num).tmod (w.sl : Int) = (j : Int)) (hk : decide (w.sk j = 2) = true) (hs : w.sn j = 1) (hx : w.x0.len ≤ 1000000) : Ok Try.prog E 41 [eW 3 w, .agg [.raw (.int .u8 wt), .raw (.int .u8 num)]] (hW3 w) (.tup [eWs 3 13 (w.hearN 0 j), rb (w.hearNB 0 j)]) (hU3 (w.hearN 0 j)) := by
  refine ok_of_engR (pl := pl41) mixed (ΓX3_sound E) Try.func41 rfl rfl (by kernel_rfl) (by simp [hW3, hU3, hU0_3, encC]) 200 (fun F _ hG => ?_)
  have hw : IntKind.i64.wrap 0 = 0 := by decide
  have hj' : ((j : Int) < (w.sl : Int)) = True := by simp; omega
  have hz' : ((w.sl : Int) = 0) = False := by simpa using hz
  simp only [Try.f41, pl41, ΓX3, cK, cM, onNat, sigN, decN, decN2, ren, rens, lix, ivn, lof, lln, el0, el1, cellOf, lstF, nodupB, encC, encN, eW, hW3, bN, lN, lg, Nod.eta, Nod.room, cast3, h1, h2, h3, h4, h5, h6, hn, hz', hw, hj, hj', hjn, hk, hs, hx, ri, rb, renB, rens, ren, sig, subH, updH, ↓engE, drawE_mk, eng, litSt, srunA_nil, srunA_b, stepR, contB_mk, r0, r1, r2, regC, sop, unw, strip, sev, tg, tset, tput, undefs, needs, opNeeds, sBin, ibin, shiftOp, gb, gslot, gdst, onth, wants, sPick, selC, sLoad, sStore, sField, sIndex, sLen, sNew, sAlloc, sBox, sCall, sBuiltin, sConv, cellsAt, hget, hset, hd1, vcells, one, splice, holeAt, idxAt, pushAt, isHole, drawSt, preL, chkL, chk, chk2, stp, nxtB_mk, pref_0, pref_b, hpOf, effAt, effOp, pureOp, readOp, allocOp, qAt, holes, lg, List.length_cons, List.length_nil, List.cons_append, List.nil_append, List.append_nil, List.map_cons, List.map_nil, List.take_succ_cons, List.take_zero, List.take_nil, List.drop_succ_cons, List.drop_zero, List.drop_nil, List.all_cons, List.all_nil, List.contains_cons, List.contains_nil, List.getElem?_cons_zero, List.getElem?_cons_succ, true_and, and_self, or_true, implies_true, not_false_eq_true, eq_self, ne_eq, Bool.true_eq_false, Bool.false_eq_true, Bool.not_true, Bool.not_false, Bool.and_false, Bool.or_false, Bool.and_self, Bool.cond_true, decide_true, decide_false, Nat.zero_add, Nat.add_zero, Nat.le_refl, Int.toNat_natCast, Int.toNat_zero, Int.natCast_nonneg, Option.getD_some, reduceCtorEq, Value.oneCell', ↓reduceIte, Nat.reduceAdd, Nat.reduceSub, Nat.reduceLT, Nat.reduceLeDiff, Nat.reduceBEq, Int.reduceLT, Int.reduceLE, Int.reduceEq, Int.reduceSub, tk3, ta3, ti3, tk5, ta5, ti5, tk30, ts30, ta30, tk41, ts41, ta41, tz41, tf41_0, tf41_1, tk71, ta71, te71, tk72, ta72, te72, tk75, ts75, ta75, tz75, tf75_1, tf75_2, tf80_0, tf80_1]
  exact hG [0, 1, 2, 3, 4, 5, 6, 7, 8, 9, 10, 11, 12, 4, 8, 10, 12] _ _ _ ⟨trivial, rfl, by simp only [Try.f41, eWs, lS, hW3, hU3, hU0_3, encC, bN, lN, lg, Wd.hearN, Wd.setN, Wd.nd, Wd.hearNB, hs, ri, rb, renR, renJ, renJs, mvH, hgetO, memB, posG, jp, renJB, renJEnts, retP, sResults, sRes1, resK, retV, vwk, vwks, vwk1, hwk, bwk, sc, scs, scEnts, tg, sLoad, cellsAt, hget, lg, List.length_cons, List.length_nil, List.cons_append, List.nil_append, List.take_succ_cons, List.take_nil, List.drop_zero, true_and, and_true, and_self, implies_true, eq_self, Bool.and_self, decide_true, decide_false, Nat.zero_add, Nat.le_refl, reduceCtorEq, Nat.reduceAdd, Nat.reduceLT, Nat.reduceLeDiff, Nat.reduceEqDiff, tk75, ts75, ta75] <;> (and_intros <;> intro k hk <;> (rcases k with _ | _ | _ | k <;> first | rfl | omega))⟩

set_option maxHeartbeats 2000000 in
set_option maxRecDepth 100000 in
theorem ok41_3hn1 (E : Addr → Option Value) (w : Wd) (num : Int) (wt : Int) (h1 : decide (wt = 1) = false) (h2 : decide (wt = 2) = false) (h3 : decide (wt = 3) = false) (h4 : decide (wt = 4) = false) (h5 : decide (wt = 5) = false) (h6 : decide (wt = 6) = true) (nn : Int) (hn : (IntKind.i64.wrap num).tmod 3 = nn) (j : Nat) (hz : decide ((w.sl : Int) = 0) = false) (hj : j < w.sl) (hjn : (IntKind.i64.wrap num).tmod (w.sl : Int) = (j : Int)) (hk : decide (w.sk j = 2) = true) (hs : w.sn j = 2) (hx : w.x1.len ≤ 1000000) : Ok Try.prog E 41 [eW 3 w, .agg [.raw (.int .u8 wt), .raw (.int .u8 num)]] (hW3 w) (.tup [eWs 3 13 (w.hearN 1 j), rb (w.hearNB 1 j)]) (hU3 (w.hearN 1 j)) := by
  refine ok_of_engR (pl := pl41) mixed (ΓX3_sound E) Try.func41 rfl rfl (by kernel_rfl) (by simp [hW3, hU3, hU0_3, encC]) 200 (fun F _ hG => ?_)
  have hw : IntKind.i64.wrap 1 = 1 := by decide
  have hj' : ((j : Int) < (w.sl : Int)) = True := by simp; omega
  have hz' : ((w.sl : Int) = 0) = False := by simpa using hz
  simp only [Try.f41, pl41, ΓX3, cK, cM, onNat, sigN, decN, decN2, ren, rens, lix, ivn, lof, lln, el0, el1, cellOf, lstF, nodupB, encC, encN, eW, hW3, bN, lN, lg, Nod.eta, Nod.room, cast3, h1, h2, h3, h4, h5, h6, hn, hz', hw, hj, hj', hjn, hk, hs, hx, ri, rb, renB, rens, ren, sig, subH, updH, ↓engE, drawE_mk, eng, litSt, srunA_nil, srunA_b, stepR, contB_mk, r0, r1, r2, regC, sop, unw, strip, sev, tg, tset, tput, undefs, needs, opNeeds, sBin, ibin, shiftOp, gb, gslot, gdst, onth, wants, sPick, selC, sLoad, sStore, sField, sIndex, sLen, sNew, sAlloc, sBox, sCall, sBuiltin, sConv, cellsAt, hget, hset, hd1, vcells, one, splice, holeAt, idxAt, pushAt, isHole, drawSt, preL, chkL, chk, chk2, stp, nxtB_mk, pref_0, pref_b, hpOf, effAt, effOp, pureOp, readOp, allocOp, qAt, holes, lg, List.length_cons, List.length_nil, List.cons_append, List.nil_append, List.append_nil, List.map_cons, List.map_nil, List.take_succ_cons, List.take_zero, List.take_nil, List.drop_succ_cons, List.drop_zero, List.drop_nil, List.all_cons, List.all_nil, List.contains_cons, List.contains_nil, List.getElem?_cons_zero, List.getElem?_cons_succ, true_and, and_self, or_true, implies_true, not_false_eq_true, eq_self, ne_eq, Bool.true_eq_false, Bool.false_eq_true, Bool.not_true, Bool.not_false, Bool.and_false, Bool.or_false, Bool.and_self, Bool.cond_true, decide_true, decide_false, Nat.zero_add, Nat.add_zero, Nat.le_refl, Int.toNat_natCast, Int.natCast_nonneg, Option.getD_some, reduceCtorEq, Value.oneCell', ↓reduceIte, Nat.reduceAdd, Nat.reduceSub, Nat.reduceLT, Nat.reduceLeDiff, Nat.reduceBEq, Int.reduceLT, Int.reduceLE, Int.reduceEq, Int.reduceToNat, Int.reduceSub, tk3, ta3, ti3, tk5, ta5, ti5, tk30, ts30, ta30, tk41, ts41, ta41, tz41, tf41_0, tf41_1, tk71, ta71, te71, tk72, ta72, te72, tk75, ts75, ta75, tz75, tf75_1, tf75_2, tf80_0, tf80_1]
  exact hG [0, 1, 2, 3, 4, 5, 6, 7, 8, 9, 10, 11, 12, 4, 8, 10, 12] _ _ _ ⟨trivial, rfl, by simp only [Try.f41, eWs, lS, hW3, hU3, hU0_3, encC, bN, lN, lg, Wd.hearN, Wd.setN, Wd.nd, Wd.hearNB, hs, ri, rb, renR, renJ, renJs, mvH, hgetO, memB, posG, jp, renJB, renJEnts, retP, sResults, sRes1, resK, retV, vwk, vwks, vwk1, hwk, bwk, sc, scs, scEnts, tg, sLoad, cellsAt, hget, lg, List.length_cons, List.length_nil, List.cons_append, List.nil_append, List.take_succ_cons, List.take_nil, List.drop_zero, true_and, and_true, and_self, implies_true, eq_self, Bool.and_self, decide_true, decide_false, Nat.zero_add, Nat.le_refl, reduceCtorEq, Nat.reduceAdd, Nat.reduceLT, Nat.reduceLeDiff, Nat.reduceEqDiff, tk75, ts75, ta75] <;> (and_intros <;> intro k hk <;> (rcases k with _ | _ | _ | k <;> first | rfl | omega))⟩

set_option maxHeartbeats 2000000 in
set_option maxRecDepth 100000 in
theorem ok41_3hn2 (E : Addr → Option Value) (w : Wd) (num : Int) (wt : Int) (h1 : decide (wt = 1) = false) (h2 : decide (wt = 2) = false) (h3 : decide (wt = 3) = false) (h4 : decide (wt = 4) = false) (h5 : decide (wt = 5) = false) (h6 : decide (wt = 6) = true) (nn : Int) (hn : (IntKind.i64.wrap num).tmod 3 = nn) (j : Nat) (hz : decide ((w.sl : Int) = 0) = false) (hj : j < w.sl) (hjn : (IntKind.i64.wrap num).tmod (w.sl : Int) = (j : Int)) (hk : decide (w.sk j = 2) = true) (hs : w.sn j = 3) (hx : w.x2.len ≤ 1000000) : Ok Try.prog E 41 [eW 3 w, .agg [.raw (.int .u8 wt), .raw (.int .u8 num)]] (hW3 w) (.tup [eWs 3 13 (w.hearN 2 j), rb (w.hearNB 2 j)]) (hU3 (w.hearN 2 j)) := by
  refine ok_of_engR (pl := pl41) mixed (ΓX3_sound E) Try.func41 rfl rfl (by kernel_rfl) (by simp [hW3, hU3, hU0_3, encC]) 200 (fun F _ hG => ?_)
  have hw : IntKind.i64.wrap 2 = 2 := by decide
  have hj' : ((j : Int) < (w.sl : Int)) = True := by simp; omega
  have hz' : ((w.sl : Int) = 0) = False := by simpa using hz
  simp only [Try.f41, pl41, ΓX3, cK, cM, onNat, sigN, decN, decN2, ren, rens, lix, ivn, lof, lln, el0, el1, cellOf, lstF, nodupB, encC, encN, eW, hW3, bN, lN, lg, Nod.eta, Nod.room, cast3, h1, h2, h3, h4, h5, h6, hn, hz', hw, hj, hj', hjn, hk, hs, hx, ri, rb, renB, rens, ren, sig, subH, updH, ↓engE, drawE_mk, eng, litSt, srunA_nil, srunA_b, stepR, contB_mk, r0, r1, r2, regC, sop, unw, strip, sev, tg, tset, tput, undefs, needs, opNeeds, sBin, ibin, shiftOp, gb, gslot, gdst, onth, wants, sPick, selC, sLoad, sStore, sField, sIndex, sLen, sNew, sAlloc, sBox, sCall, sBuiltin, sConv, cellsAt, hget, hset, hd1, vcells, one, splice, holeAt, idxAt, pushAt, isHole, drawSt, preL, chkL, chk, chk2, stp, nxtB_mk, pref_0, pref_b, hpOf, effAt, effOp, pureOp, readOp, allocOp, qAt, holes, lg, List.length_cons, List.length_nil, List.cons_append, List.nil_append, List.append_nil, List.map_cons, List.map_nil, List.take_succ_cons, List.take_zero, List.take_nil, List.drop_succ_cons, List.drop_zero, List.drop_nil, List.all_cons, List.all_nil, List.contains_cons, List.contains_nil, List.getElem?_cons_zero, List.getElem?_cons_succ, true_and, and_self, or_true, implies_true, not_false_eq_true, eq_self, ne_eq, Bool.true_eq_false, Bool.false_eq_true, Bool.not_true, Bool.not_false, Bool.and_false, Bool.or_false, Bool.and_self, Bool.cond_true, decide_true, decide_false, Nat.zero_add, Nat.add_zero, Nat.le_refl, Int.toNat_natCast, Int.natCast_nonneg, Option.getD_some, reduceCtorEq, Value.oneCell', ↓reduceIte, Nat.reduceAdd, Nat.reduceSub, Nat.reduceLT, Nat.reduceLeDiff, Nat.reduceBEq, Int.reduceLT, Int.reduceLE, Int.reduceEq, Int.reduceToNat, Int.reduceSub, tk3, ta3, ti3, tk5, ta5, ti5, tk30, ts30, ta30, tk41, ts41, ta41, tz41, tf41_0, tf41_1, tk71, ta71, te71, tk72, ta72, te72, tk75, ts75, ta75, tz75, tf75_1, tf75_2, tf80_0, tf80_1]
  exact hG [0, 1, 2, 3, 4, 5, 6, 7, 8, 9, 10, 11, 12, 4, 8, 10, 12] _ _ _ ⟨trivial, rfl, by simp only [Try.f41, eWs, lS, hW3, hU3, hU0_3, encC, bN, lN, lg, Wd.hearN, Wd.setN, Wd.nd, Wd.hearNB, hs, ri, rb, renR, renJ, renJs, mvH, hgetO, memB, posG, jp, renJB, renJEnts, retP, sResults, sRes1, resK, retV, vwk, vwks, vwk1, hwk, bwk, sc, scs, scEnts, tg, sLoad, cellsAt, hget, lg, List.length_cons, List.length_nil, List.cons_append, List.nil_append, List.take_succ_cons, List.take_nil, List.drop_zero, true_and, and_true, and_self, implies_true, eq_self, Bool.and_self, decide_true, decide_false, Nat.zero_add, Nat.le_refl, reduceCtorEq, Nat.reduceAdd, Nat.reduceLT, Nat.reduceLeDiff, Nat.reduceEqDiff, tk75, ts75, ta75] <;> (and_intros <;> intro k hk <;> (rcases k with _ | _ | _ | k <;> first | rfl | omega))⟩

set_option maxHeartbeats 2000000 in
set_option maxRecDepth 100000 in
theorem ok41_3hct (E : Addr → Option Value) (w : Wd) (num : Int) (wt : Int) (h1 : decide (wt = 1) = false) (h2 : decide (wt = 2) = false) (h3 : decide (wt = 3) = false) (h4 : decide (wt = 4) = false) (h5 : decide (wt = 5) = false) (h6 : decide (wt = 6) = true) (nn : Int) (hn : (IntKind.i64.wrap num).tmod 3 = nn) (j : Nat) (hz : decide ((w.sl : Int) = 0) = false) (hj : j < w.sl) (hjn : (IntKind.i64.wrap num).tmod (w.sl : Int) = (j : Int)) (hk : decide (w.sk j = 2) = false) (hl : w.sl ≤ 1000000) (hr : w.c.reply (w.sk j) (w.sn j) (w.sm j) = true) : Ok Try.prog E 41 [eW 3 w, .agg [.raw (.int .u8 wt), .raw (.int .u8 num)]] (hW3 w) (.tup [eWs 3 13 (w.hearC j), rb (decide (w.c.err (w.sk j) (w.sn j) (w.sm j) = 0))]) (hU3 (w.hearC j)) := by
  refine ok_of_engR (pl := pl41) mixed (ΓX3_sound E) Try.func41 rfl rfl (by kernel_rfl) (by simp [hW3, hU3, hU0_3, encC]) 200 (fun F _ hG => ?_)
  have hj' : ((j : Int) < (w.sl : Int)) = True := by simp; omega
  have hz' : ((w.sl : Int) = 0) = False := by simpa using hz
  simp only [Try.f41, pl41, ΓX3, cK, onK, decC2, ivn, cellOf, lstN, lstF, encC, eW, hW3, bN, lN, lg, Cen.eta, cast3, says_word, seqT, h1, h2, h3, h4, h5, h6, hn, hz', hj, hj', hjn, hk, hr, bsl, ri, rb, ↓engE, drawE_mk, eng, litSt, srunA_nil, srunA_b, stepR, contB_mk, r0, regC, sop, unw, strip, sev, tg, tset, tput, undefs, needs, opNeeds, sBin, ibin, shiftOp, gdst, onth, selC, sLoad, sStore, sExtract, sField, sIndex, sLen, sNew, sAlloc, sBox, sFill, sBuild, sLit, sApp, sCall, sBuiltin, sConv, cellsAt, hget, hset, hd1, vcells, one, whole, splice, holeAt, idxAt, pushAt, isHole, nth, zrep, tgt, src, allK, intsEq, drawSt, preL, chkL, chk, chk2, stp, nxtB_mk, pref_0, pref_b, hpOf, effAt, effOp, pureOp, readOp, allocOp, qAt, holes, lg, List.length_cons, List.length_nil, List.cons_append, List.nil_append, List.append_nil, List.map_cons, List.map_nil, List.take_succ_cons, List.take_zero, List.take_nil, List.drop_succ_cons, List.drop_zero, List.drop_nil, List.all_cons, List.all_nil, List.getElem?_cons_zero, List.getElem?_cons_succ, true_and, and_true, and_self, or_true, not_false_eq_true, eq_self, ne_eq, Bool.false_eq_true, Bool.not_true, Bool.not_false, Bool.and_true, Bool.false_and, Bool.and_false, Bool.and_self, decide_true, decide_false, Nat.zero_add, Nat.add_zero, Nat.zero_mul, Nat.one_mul, Nat.le_refl, Int.toNat_natCast, Int.natCast_nonneg, reduceCtorEq, Value.oneCell', Nat.reduceAdd, Nat.reduceSub, Nat.reduceLT, Nat.reduceLeDiff, Int.reduceEq, tk3, ta3, ti3, tk5, ta5, ti5, tk27, ta27, tk41, ts41, ta41, tb41, tz41, tf41_0, tpl41, tk71, ta71, te71, tk72, ts72, ta72, te72, tk75, ts75, ta75, tz75, tf75_0, tf75_1, tf75_2, tf80_0, tf80_1]
  refine ⟨by omega, hG [0, 1, 2, 3, 4, 5, 6, 7, 8, 9, 10, 11, 12, 19, 8, 10, 12] _ _ _ ⟨trivial, rfl, ?_⟩⟩
  simp only [Try.f41, eWs, lS, hW3, hU3, hU0_3, encC, bN, lN, lg, Wd.hearC, Wd.push, hr, ri, rb, renR, renJ, renJs, mvH, hgetO, memB, posG, jp, renJB, renJEnts, retP, sResults, sRes1, resK, retV, vwk, vwks, vwk1, hwk, bwk, sc, scs, scEnts, tg, sLoad, cellsAt, hget, app, lg, List.length_cons, List.length_nil, List.cons_append, List.nil_append, List.take_succ_cons, List.take_nil, List.drop_zero, true_and, and_true, and_self, implies_true, eq_self, Bool.and_self, decide_true, decide_false, Nat.zero_add, Nat.le_refl, reduceCtorEq, Nat.reduceAdd, Nat.reduceLT, Nat.reduceLeDiff, Nat.reduceEqDiff, tk75, ts75, ta75] <;> (and_intros <;> intro k hk <;> first | (rcases k with _ | _ | _ | k <;> first | rfl | omega) | (by_cases q : k < w.sl; (simp only [q, if_true, renJs, renJ]); (have : k - w.sl = 0 := (by omega); simp only [q, this, List.take_succ_cons, List.take_nil, List.drop_zero, eq_self, Nat.zero_mul, ↓reduceIte, renJs, renJ])))

set_option maxHeartbeats 2000000 in
set_option maxRecDepth 100000 in
theorem ok41_3hcf (E : Addr → Option Value) (w : Wd) (num : Int) (wt : Int) (h1 : decide (wt = 1) = false) (h2 : decide (wt = 2) = false) (h3 : decide (wt = 3) = false) (h4 : decide (wt = 4) = false) (h5 : decide (wt = 5) = false) (h6 : decide (wt = 6) = true) (nn : Int) (hn : (IntKind.i64.wrap num).tmod 3 = nn) (j : Nat) (hz : decide ((w.sl : Int) = 0) = false) (hj : j < w.sl) (hjn : (IntKind.i64.wrap num).tmod (w.sl : Int) = (j : Int)) (hk : decide (w.sk j = 2) = false) (_hl : w.sl ≤ 1000000) (hr : w.c.reply (w.sk j) (w.sn j) (w.sm j) = false) : Ok Try.prog E 41 [eW 3 w, .agg [.raw (.int .u8 wt), .raw (.int .u8 num)]] (hW3 w) (.tup [eWs 3 13 (w.hearC j), rb (decide (w.c.err (w.sk j) (w.sn j) (w.sm j) = 0))]) (hU3 (w.hearC j)) := by
  refine ok_of_engR (pl := pl41) mixed (ΓX3_sound E) Try.func41 rfl rfl (by kernel_rfl) (by simp [hW3, hU3, hU0_3, encC]) 200 (fun F _ hG => ?_)
  have hj' : ((j : Int) < (w.sl : Int)) = True := by simp; omega
  have hz' : ((w.sl : Int) = 0) = False := by simpa using hz
  simp only [Try.f41, pl41, ΓX3, cK, onK, decC2, ivn, cellOf, lstN, lstF, encC, eW, hW3, bN, lN, lg, Cen.eta, cast3, says_word, seqT, h1, h2, h3, h4, h5, h6, hn, hz', hj, hj', hjn, hk, hr, bsl, ri, rb, ↓engE, drawE_mk, eng, litSt, srunA_nil, srunA_b, stepR, contB_mk, r0, regC, sop, unw, strip, sev, tg, tset, tput, undefs, needs, opNeeds, sBin, ibin, shiftOp, gdst, onth, selC, sLoad, sStore, sExtract, sField, sIndex, sLen, sNew, sAlloc, sBox, sFill, sBuild, sCall, sBuiltin, sConv, cellsAt, hget, hset, hd1, vcells, one, splice, holeAt, idxAt, pushAt, isHole, nth, intsEq, drawSt, preL, chkL, chk, chk2, stp, nxtB_mk, pref_0, pref_b, hpOf, effAt, effOp, pureOp, readOp, allocOp, qAt, holes, lg, List.length_cons, List.length_nil, List.cons_append, List.nil_append, List.append_nil, List.map_cons, List.map_nil, List.take_succ_cons, List.take_zero, List.take_nil, List.drop_succ_cons, List.drop_zero, List.drop_nil, List.all_cons, List.all_nil, List.getElem?_cons_zero, List.getElem?_cons_succ, true_and, and_self, or_true, not_false_eq_true, eq_self, ne_eq, Bool.false_eq_true, Bool.not_true, Bool.not_false, Bool.and_false, Bool.and_self, decide_true, decide_false, Nat.zero_add, Nat.add_zero, Nat.le_refl, Int.toNat_natCast, Int.natCast_nonneg, reduceCtorEq, Value.oneCell', Nat.reduceAdd, Nat.reduceSub, Nat.reduceLeDiff, Int.reduceEq, tk3, ta3, ti3, tk5, ta5, ti5, tk27, ta27, tk41, ts41, ta41, tz41, tf41_0, tpl41, tk71, ta71, te71, tk72, ta72, te72, tk75, ts75, ta75, tz75, tf75_0, tf75_1, tf75_2, tf80_0, tf80_1]
  exact hG [0, 1, 2, 3, 4, 5, 6, 7, 8, 9, 10, 11, 12, 4, 8, 10, 12] _ _ _ ⟨trivial, rfl, by simp only [Try.f41, eWs, lS, hW3, hU3, hU0_3, encC, bN, lN, lg, Wd.hearC, hr, ri, rb, renR, renJ, renJs, mvH, hgetO, memB, posG, jp, renJB, renJEnts, retP, sResults, sRes1, resK, retV, vwk, vwks, vwk1, hwk, bwk, sc, scs, scEnts, tg, sLoad, cellsAt, hget, lg, List.length_cons, List.length_nil, List.cons_append, List.nil_append, List.take_succ_cons, List.take_nil, List.drop_zero, true_and, and_true, and_self, implies_true, eq_self, Bool.and_self, decide_true, decide_false, Nat.zero_add, Nat.le_refl, reduceCtorEq, Nat.reduceAdd, Nat.reduceLT, Nat.reduceLeDiff, Nat.reduceEqDiff, tk75, ts75, ta75] <;> (and_intros <;> intro k hk <;> (rcases k with _ | _ | _ | k <;> first | rfl | omega))⟩

set_option maxHeartbeats 2000000 in
set_option maxRecDepth 100000 in
theorem ok41_3tcf (E : Addr → Option Value) (w : Wd) (num : Int) (wt : Int) (h1 : decide (wt = 1) = false) (h2 : decide (wt = 2) = false) (h3 : decide (wt = 3) = false) (h4 : decide (wt = 4) = false) (h5 : decide (wt = 5) = false) (h6 : decide (wt = 6) = false) (h7 : decide (wt = 7) = true) (nn : Int) (hn : (IntKind.i64.wrap num).tmod 3 = nn) (hm : w.may 3 = false) : Ok Try.prog E 41 [eW 3 w, .agg [.raw (.int .u8 wt), .raw (.int .u8 num)]] (hW3 w) (.tup [eWs 3 13 (w), rb (true)]) (hU3 (w)) := by
  refine ok_of_engR (pl := pl41) mixed (ΓX3_sound E) Try.func41 rfl rfl (by kernel_rfl) (by simp [hW3, hU3, hU0_3, encC]) 200 (fun F _ hG => ?_)
  simp only [Try.f41, pl41, ΓX3, decC2, decN2, ivn, lof, lln, el0, el1, el2, cellOf, lstN, lstF, encC, eW, hW3, bN, lN, lg, Cen.eta, Nod.eta, cast3, onV3, decV3, tg, hd1, h1, h2, h3, h4, h5, h6, h7, hn, hm, ri, rb, eng, litSt, srunA_nil, srunA_b, stepR, contB_mk, r0, regC, sop, unw, strip, sev, tg, tset, tput, undefs, needs, opNeeds, sBin, ibin, shiftOp, selC, sLoad, sStore, sField, sLen, sNew, sAlloc, sBox, sCall, sBuiltin, sUn, sConv, cellsAt, hget, hset, hd1, vcells, one, splice, holeAt, idxAt, pushAt, lg, List.length_cons, List.length_nil, List.cons_append, List.nil_append, List.append_nil, List.map_cons, List.map_nil, List.take_succ_cons, List.take_zero, List.take_nil, List.drop_succ_cons, List.drop_zero, List.drop_nil, List.all_cons, List.all_nil, true_and, and_self, or_true, not_false_eq_true, eq_self, ne_eq, Bool.false_eq_true, Bool.not_false, Bool.and_self, Nat.zero_add, Nat.add_zero, Nat.le_refl, reduceCtorEq, Value.oneCell', Nat.reduceAdd, Nat.reduceSub, Nat.reduceLeDiff, Int.reduceEq, ti3, tk5, ta5, ti5, tk71, ta71, te71, tk75, ts75, ta75, tz75, tf75_1, tf80_0, tf80_1]
  exact hG [0, 1, 2, 3, 4, 5, 6, 7, 8, 9, 10, 11, 12, 4, 8, 10, 12] _ _ _ ⟨trivial, rfl, by simp only [Try.f41, eWs, lS, hW3, hU3, hU0_3, encC, bN, lN, lg, ri, rb, renR, renJ, renJs, mvH, hgetO, memB, posG, jp, renJB, renJEnts, retP, sResults, sRes1, resK, retV, vwk, vwks, vwk1, hwk, bwk, sc, scs, scEnts, tg, sLoad, cellsAt, hget, lg, List.length_cons, List.length_nil, List.cons_append, List.nil_append, List.take_succ_cons, List.take_nil, List.drop_zero, true_and, and_true, and_self, implies_true, eq_self, Bool.and_self, decide_true, decide_false, Nat.zero_add, Nat.le_refl, reduceCtorEq, Nat.reduceAdd, Nat.reduceLT, Nat.reduceLeDiff, Nat.reduceEqDiff, tk75, ts75, ta75] <;> (and_intros <;> intro k hk <;> (rcases k with _ | _ | _ | k <;> first | rfl | omega))⟩

set_option maxHeartbeats 2000000 in
set_option maxRecDepth 100000 in
theorem ok41_3tct (E : Addr → Option Value) (w : Wd) (num : Int) (wt : Int) (h1 : decide (wt = 1) = false) (h2 : decide (wt = 2) = false) (h3 : decide (wt = 3) = false) (h4 : decide (wt = 4) = false) (h5 : decide (wt = 5) = false) (h6 : decide (wt = 6) = false) (h7 : decide (wt = 7) = true) (nn : Int) (hn : (IntKind.i64.wrap num).tmod 3 = nn) (hm : w.may 3 = true) : Ok Try.prog E 41 [eW 3 w, .agg [.raw (.int .u8 wt), .raw (.int .u8 num)]] (hW3 w) (.tup [eWs 3 13 (w.tickC), rb (true)]) (hU3 (w.tickC)) := by
  refine ok_of_engR (pl := pl41) mixed (ΓX3_sound E) Try.func41 rfl rfl (by kernel_rfl) (by simp [hW3, hU3, hU0_3, encC]) 200 (fun F _ hG => ?_)
  simp only [Try.f41, pl41, ΓX3, decC2, decN2, ivn, lof, lln, el0, el1, el2, cellOf, lstN, lstF, encC, eW, hW3, bN, lN, lg, Cen.eta, Nod.eta, cast3, onV3, decV3, tg, hd1, h1, h2, h3, h4, h5, h6, h7, hn, hm, ri, rb, eng, litSt, srunA_nil, srunA_b, stepR, contB_mk, r0, regC, sop, unw, strip, sev, tg, tset, tput, undefs, needs, opNeeds, sBin, ibin, shiftOp, selC, sLoad, sField, sLen, sNew, sAlloc, sBox, sCall, sBuiltin, sUn, sConv, cellsAt, hget, hd1, vcells, one, holeAt, idxAt, pushAt, lg, List.length_cons, List.length_nil, List.cons_append, List.nil_append, List.map_cons, List.map_nil, List.take_succ_cons, List.take_zero, List.take_nil, List.drop_succ_cons, List.drop_zero, List.all_cons, List.all_nil, true_and, and_self, or_true, not_false_eq_true, eq_self, ne_eq, Bool.false_eq_true, Bool.not_true, Bool.and_self, Nat.zero_add, Nat.add_zero, Nat.le_refl, reduceCtorEq, Value.oneCell', Nat.reduceAdd, Nat.reduceSub, Nat.reduceLeDiff, Int.reduceEq, ti3, tk5, ta5, ti5, tk71, ta71, te71, tk75, ts75, ta75, tz75, tf75_1, tf80_0, tf80_1]
  refine ⟨Nat, t41_3, h41_3 w, fun i => i ≤ 3, fun i => 3 - i, 0, by omega, ⟨none, ?_⟩, ?_⟩
  · simp only [NwO, Nw, t41_3, h41_3, gapI, Nat.not_lt_zero, hW3, encC, bN, lN, junks, ri, rb, Int.natCast_zero, NwO, Nw, wk, vwks, vwk1, hwk, bwk, sc, scs, scEnts, lg, List.length_cons, List.length_nil, List.cons_append, List.nil_append, true_and, and_true, and_self, implies_true, eq_self, Bool.and_self, decide_true, decide_false, Nat.zero_add, Nat.le_refl, Nat.reduceAdd, Nat.reduceLT, Nat.reduceLeDiff] <;> (and_intros <;> intro k hk <;> (rcases k with _ | _ | _ | k <;> first | rfl | omega))
  · rintro i hi F' hN hX
    cases hlt : decide ((i : Int) < 3) with
    | false =>
      have hil : i = 3 := by simp at hlt; omega
      simp only [t41_3, h41_3, hW3, encC, bN, lN, junks, ri, rb, pl41, cast3, hlt, eng, litSt, srunA_nil, srunA_b, stepR, contB_mk, r0, regC, sop, unw, strip, sev, tg, tset, tput, needs, opNeeds, sBin, ibin, shiftOp, selC, sLoad, sField, sLen, sBuiltin, cellsAt, hget, hd1, lg, List.length_cons, List.length_nil, List.cons_append, List.nil_append, List.map_cons, List.map_nil, List.take_succ_cons, List.take_zero, List.drop_succ_cons, List.drop_zero, true_and, and_self, or_true, not_false_eq_true, eq_self, ne_eq, Bool.false_eq_true, Nat.zero_add, reduceCtorEq, Nat.reduceAdd, Nat.reduceLeDiff, tk73, ta73, te73, tf75_3]
      refine hX _ _ _ (by simp) ?_
      simp only [popF, pl41, ΓX3, cK, onK, decC2, ivn, cellOf, lstN, lstF, encC, Cen.eta, ri, rb, ↓engE, drawE_mk, eng, stepR, r0, sop, unw, strip, sev, tg, tset, tput, needs, opNeeds, sBin, ibin, shiftOp, gdst, onth, popF, exitC, sLoad, sStore, sField, sCall, cellsAt, hget, hset, hd1, vcells, one, splice, drawSt, preL, chkL, chk, chk2, stp, nxtB_mk, pref_0, pref_b, hpOf, effAt, effOp, pureOp, readOp, allocOp, holes, List.length_cons, List.length_nil, List.cons_append, List.nil_append, List.append_nil, List.map_cons, List.map_nil, List.take_succ_cons, List.take_zero, List.take_nil, List.drop_succ_cons, List.drop_zero, List.drop_nil, List.all_cons, List.all_nil, true_and, and_self, or_true, not_false_eq_true, eq_self, ne_eq, Bool.false_eq_true, Bool.not_true, Bool.not_false, Bool.and_false, Bool.and_self, decide_true, Nat.zero_add, Nat.add_zero, Nat.le_refl, reduceCtorEq, Value.oneCell', Nat.reduceAdd, Nat.reduceLeDiff, Nat.reduceBEq, tk27, ta27, tk75, ts75, ta75, tf75_0]
      exact hG [0, 1, 2, 3, 4, 5, 6, 7, 8, 9, 10, 11, 12, 4, 8, 10, 12] _ _ _ ⟨trivial, rfl, by simp only [Try.f41, eWs, lS, hW3, hU3, hU0_3, encC, bN, lN, lg, Wd.tickC, ri, rb, renR, renJ, renJs, mvH, hgetO, memB, posG, jp, renJB, renJEnts, retP, sResults, sRes1, resK, retV, vwk, vwks, vwk1, hwk, bwk, sc, scs, scEnts, tg, sLoad, cellsAt, hget, lg, List.length_cons, List.length_nil, List.cons_append, List.nil_append, List.take_succ_cons, List.take_nil, List.drop_zero, true_and, and_true, and_self, implies_true, eq_self, Bool.and_self, decide_true, decide_false, Nat.zero_add, Nat.le_refl, reduceCtorEq, List.cons.injEq, SV.raw.injEq, Value.int.injEq, Nat.reduceAdd, Nat.reduceLT, Nat.reduceLeDiff, Nat.reduceEqDiff, tk75, ts75, ta75] <;> (and_intros <;> intro k hk <;> first | (rcases k with _ | _ | _ | k <;> first | rfl | omega) | (simp only [gapI, hil, show decide (k < 3) = true by simpa using hk]))⟩
    | true =>
      have hil : i < 3 := by simp at hlt; omega
      have hlt' : ((i : Int) < 3) = True := by simp; omega
      have hw : IntKind.i64.wrap ((i : Int) + 1) = i + 1 := wrap1 (by omega) (by omega)
      have hgi : gapI w i i = w.gap i := by simp [gapI]
      simp only [t41_3, h41_3, hW3, encC, bN, lN, junks, ri, rb, pl41, cast3, hlt', hil, hw, hgi, ↓engE, drawE_mk, eng, litSt, srunA_nil, srunA_b, stepR, contB_mk, r0, regC, sop, unw, strip, sev, tg, tset, tput, needs, opNeeds, sBin, ibin, shiftOp, gdst, onth, selC, sLoad, sStore, sField, sIndex, sLen, sBuiltin, cellsAt, hget, hset, hd1, vcells, one, splice, drawSt, preL, chkL, stp, nxtB_mk, pref_0, pref_b, allocOp, holes, lg, List.length_cons, List.length_nil, List.cons_append, List.nil_append, List.append_nil, List.map_cons, List.map_nil, List.take_succ_cons, List.take_zero, List.take_nil, List.drop_succ_cons, List.drop_zero, List.drop_nil, List.all_cons, List.all_nil, true_and, and_self, or_true, not_false_eq_true, eq_self, ne_eq, Bool.false_eq_true, Bool.and_self, decide_true, Nat.zero_add, Nat.le_refl, Int.toNat_natCast, Int.natCast_nonneg, reduceCtorEq, Value.oneCell', Nat.reduceAdd, Nat.reduceLeDiff, tk3, ts3, ta3, tk73, ta73, te73, tf75_3]
      refine hN none (i + 1) _ _ (by omega) (by simp only; omega) ?_
      simp only [NwO, Nw, t41_3, h41_3, hW3, encC, bN, lN, junks, ri, rb, Int.natCast_add, Int.natCast_one, NwO, Nw, wk, vwks, vwk1, hwk, bwk, sc, scs, scEnts, lg, List.length_cons, List.length_nil, List.cons_append, List.nil_append, true_and, and_true, and_self, implies_true, eq_self, Bool.and_self, decide_true, Nat.zero_add, Nat.le_refl, Nat.reduceAdd, Nat.reduceLT, Nat.reduceLeDiff] <;> (and_intros <;> intro k hk <;> first | (rcases k with _ | _ | _ | k <;> first | rfl | omega) | (rw [gapI_s]; by_cases q : k = i <;> simp only [q, eq_self, ↓reduceIte]))
end Go.Proofs.Ytmnpnnegnlhemaa.Eng
namespace Go.Proofs.Ytmnpnnegnlhemaa.Eng
open Go

set_option maxHeartbeats 1000000 in
theorem hap3 (E : Addr → Option Value) (w : Wd) (what num : Int) (hf : Fit 3 w) (h0 : 0 ≤ num) (h9 : num < 256) : Ok Try.prog E 41 [eW 3 w, .agg [.raw (.int .u8 what), .raw (.int .u8 num)]] (hW3 w) (.tup [eWs 3 13 (w.step 3 what num), rb true]) (hU3 (w.step 3 what num)) := by
  obtain ⟨T, S, W, t, hp, hT, hS, hW, hWT, ht, b⟩ := hf
  have wn := wrap_byte h0 h9
  have hsl : w.sl ≤ 1000000 := by have := b.sl; omega
  have hln : ∀ k, k < 3 → (w.nd k).len ≤ 1000000 := fun k hk => by have := (b.nod k hk).len; omega
  unfold Wd.step
  simp only
  cases h1 : decide (what = 1) with
  | true =>
    obtain rfl : what = 1 := of_decide_eq_true h1
    simp only
    have hk3 : num.tmod 3 = 0 ∨ num.tmod 3 = 1 ∨ num.tmod 3 = 2 := by have := tmod_lt h0 (show (0 : Int) < 3 by decide); omega
    rcases hk3 with q | q | q
    · have qn : (IntKind.i64.wrap num).tmod 3 = 0 := by rw [wn]; exact q
      have qk : (num.tmod (3 : Nat)).toNat = 0 := by rw [show (((3 : Nat)) : Int) = 3 from rfl, q]; rfl
      rw [qk]
      have e := (b.askN hp.2 ht (show 0 < 3 by decide)).2
      have := ok41_3ask0 E w num qn (hln 0 (by decide)) hsl
      rw [e] at this
      exact this
    · have qn : (IntKind.i64.wrap num).tmod 3 = 1 := by rw [wn]; exact q
      have qk : (num.tmod (3 : Nat)).toNat = 1 := by rw [show (((3 : Nat)) : Int) = 3 from rfl, q]; rfl
      rw [qk]
      have e := (b.askN hp.2 ht (show 1 < 3 by decide)).2
      have := ok41_3ask1 E w num qn (hln 1 (by decide)) hsl
      rw [e] at this
      exact this
    · have qn : (IntKind.i64.wrap num).tmod 3 = 2 := by rw [wn]; exact q
      have qk : (num.tmod (3 : Nat)).toNat = 2 := by rw [show (((3 : Nat)) : Int) = 3 from rfl, q]; rfl
      rw [qk]
      have e := (b.askN hp.2 ht (show 2 < 3 by decide)).2
      have := ok41_3ask2 E w num qn (hln 2 (by decide)) hsl
      rw [e] at this
      exact this
  | false =>
    simp only
    cases h2 : decide (what = 2) with
    | true =>
      obtain rfl : what = 2 := of_decide_eq_true h2
      simp only
      have hk3 : num.tmod 3 = 0 ∨ num.tmod 3 = 1 ∨ num.tmod 3 = 2 := by have := tmod_lt h0 (show (0 : Int) < 3 by decide); omega
      rcases hk3 with q | q | q
      · have qn : (IntKind.i64.wrap num).tmod 3 = 0 := by rw [wn]; exact q
        have qk : (num.tmod (3 : Nat)).toNat = 0 := by rw [show (((3 : Nat)) : Int) = 3 from rfl, q]; rfl
        rw [qk]
        have e := (b.retN hp.2 hT.1 (show 0 < 3 by decide)).2.1
        cases hz : decide ((w.nd 0).ret3 = 0) with
        | true =>
          have := ok41_3ret0 E w num qn hsl hz
          rw [e] at this
          exact this
        | false =>
          have := ok41_3rex0 E w num qn hz
          rw [e] at this
          exact this
      · have qn : (IntKind.i64.wrap num).tmod 3 = 1 := by rw [wn]; exact q
        have qk : (num.tmod (3 : Nat)).toNat = 1 := by rw [show (((3 : Nat)) : Int) = 3 from rfl, q]; rfl
        rw [qk]
        have e := (b.retN hp.2 hT.1 (show 1 < 3 by decide)).2.1
        cases hz : decide ((w.nd 1).ret3 = 0) with
        | true =>
          have := ok41_3ret1 E w num qn hsl hz
          rw [e] at this
          exact this
        | false =>
          have := ok41_3rex1 E w num qn hz
          rw [e] at this
          exact this
      · have qn : (IntKind.i64.wrap num).tmod 3 = 2 := by rw [wn]; exact q
        have qk : (num.tmod (3 : Nat)).toNat = 2 := by rw [show (((3 : Nat)) : Int) = 3 from rfl, q]; rfl
        rw [qk]
        have e := (b.retN hp.2 hT.1 (show 2 < 3 by decide)).2.1
        cases hz : decide ((w.nd 2).ret3 = 0) with
        | true =>
          have := ok41_3ret2 E w num qn hsl hz
          rw [e] at this
          exact this
        | false =>
          have := ok41_3rex2 E w num qn hz
          rw [e] at this
          exact this
    | false =>
      simp only
      cases h3 : decide (what = 3) with
      | true =>
        obtain rfl : what = 3 := of_decide_eq_true h3
        simp only
        have hk3 : num.tmod 3 = 0 ∨ num.tmod 3 = 1 ∨ num.tmod 3 = 2 := by have := tmod_lt h0 (show (0 : Int) < 3 by decide); omega
        rcases hk3 with q | q | q
        · have qn : (IntKind.i64.wrap num).tmod 3 = 0 := by rw [wn]; exact q
          have qk : (num.tmod (3 : Nat)).toNat = 0 := by rw [show (((3 : Nat)) : Int) = 3 from rfl, q]; rfl
          rw [qk]
          exact ok41_3brk0 E w num qn
        · have qn : (IntKind.i64.wrap num).tmod 3 = 1 := by rw [wn]; exact q
          have qk : (num.tmod (3 : Nat)).toNat = 1 := by rw [show (((3 : Nat)) : Int) = 3 from rfl, q]; rfl
          rw [qk]
          exact ok41_3brk1 E w num qn
        · have qn : (IntKind.i64.wrap num).tmod 3 = 2 := by rw [wn]; exact q
          have qk : (num.tmod (3 : Nat)).toNat = 2 := by rw [show (((3 : Nat)) : Int) = 3 from rfl, q]; rfl
          rw [qk]
          exact ok41_3brk2 E w num qn
      | false =>
        simp only
        cases h4 : decide (what = 4) with
        | true =>
          simp only
          exact ok41_3cb E w num what h1 h2 h3 h4 _ rfl
        | false =>
          simp only
          cases h5 : decide (what = 5) with
          | true =>
            simp only
            have hv := tmod_lt h0 (show (0 : Int) < 3 + 1 by decide)
            have e := (want_ok (tc := fun _ _ => 0) (ta := fun _ _ => 0) (e := fun _ => 0) (hh := 0) hp.2 b hv.1 (by simpa using Int.lt_add_one_iff.1 hv.2)).2.1
            have := ok41_3cw E w num what h1 h2 h3 h4 h5 _ rfl (num.tmod (3 + 1)) (by rw [wn]; rfl)
            rw [e] at this
            exact this
          | false =>
            simp only
            cases h6 : decide (what = 6) with
            | true =>
              simp only
              cases hz : decide (w.sl = 0) with
              | true => exact ok41_3he E w num what h1 h2 h3 h4 h5 h6 _ rfl (of_decide_eq_true hz)
              | false =>
                simp only
                have hz' : w.sl ≠ 0 := of_decide_eq_false hz
                have hzi : decide ((w.sl : Int) = 0) = false := by simpa using hz'
                have hv := tmod_lt h0 (show (0 : Int) < w.sl by omega)
                have hj : (num.tmod w.sl).toNat < w.sl := by omega
                have hjn : (IntKind.i64.wrap num).tmod (w.sl : Int) = (((num.tmod w.sl).toNat : Nat) : Int) := by rw [wn]; omega
                obtain ⟨s1, s2, s3, s4⟩ := b.sent _ hj
                cases hk : decide (w.sk (num.tmod w.sl).toNat = 2) with
                | true =>
                  simp only
                  have hk' : w.sk (num.tmod w.sl).toNat = 2 := of_decide_eq_true hk
                  have hk3 : w.sn (num.tmod w.sl).toNat = 1 ∨ w.sn (num.tmod w.sl).toNat = 2 ∨ w.sn (num.tmod w.sl).toNat = 3 := by omega
                  rcases hk3 with q | q | q
                  · have e := (hearN_ok (tc := fun _ _ => 0) (ta := fun _ _ => 0) (e := fun _ => 0) (hh := 0) hp.2 hT ht b (show 0 < 3 by decide) hj hk' (by rw [q]; rfl)).2.1
                    have := ok41_3hn0 E w num what h1 h2 h3 h4 h5 h6 _ rfl _ hzi hj hjn hk q (hln 0 (by decide))
                    rw [e] at this
                    rw [q]
                    exact this
                  · have e := (hearN_ok (tc := fun _ _ => 0) (ta := fun _ _ => 0) (e := fun _ => 0) (hh := 0) hp.2 hT ht b (show 1 < 3 by decide) hj hk' (by rw [q]; rfl)).2.1
                    have := ok41_3hn1 E w num what h1 h2 h3 h4 h5 h6 _ rfl _ hzi hj hjn hk q (hln 1 (by decide))
                    rw [e] at this
                    rw [q]
                    exact this
                  · have e := (hearN_ok (tc := fun _ _ => 0) (ta := fun _ _ => 0) (e := fun _ => 0) (hh := 0) hp.2 hT ht b (show 2 < 3 by decide) hj hk' (by rw [q]; rfl)).2.1
                    have := ok41_3hn2 E w num what h1 h2 h3 h4 h5 h6 _ rfl _ hzi hj hjn hk q (hln 2 (by decide))
                    rw [e] at this
                    rw [q]
                    exact this
                | false =>
                  simp only
                  have hk' : w.sk (num.tmod w.sl).toNat ≠ 2 := of_decide_eq_false hk
                  have e := (hearC_ok (tc := fun _ _ => 0) (ta := fun _ _ => 0) (e := fun _ => 0) (hh := 0) hp.2 ht b hj hk').2.1
                  cases hr : w.c.reply (w.sk (num.tmod w.sl).toNat) (w.sn (num.tmod w.sl).toNat) (w.sm (num.tmod w.sl).toNat) with
                  | true =>
                    have := ok41_3hct E w num what h1 h2 h3 h4 h5 h6 _ rfl _ hzi hj hjn hk hsl hr
                    rw [e] at this
                    exact this
                  | false =>
                    have := ok41_3hcf E w num what h1 h2 h3 h4 h5 h6 _ rfl _ hzi hj hjn hk hsl hr
                    rw [e] at this
                    exact this
            | false =>
              simp only
              cases h7 : decide (what = 7) with
              | true =>
                simp only
                cases hm : w.may 3 with
                | true => exact ok41_3tct E w num what h1 h2 h3 h4 h5 h6 h7 _ rfl hm
                | false => exact ok41_3tcf E w num what h1 h2 h3 h4 h5 h6 h7 _ rfl hm
              | false =>
                simp only
                have hk3 : num.tmod 3 = 0 ∨ num.tmod 3 = 1 ∨ num.tmod 3 = 2 := by have := tmod_lt h0 (show (0 : Int) < 3 by decide); omega
                rcases hk3 with q | q | q
                · have qn : (IntKind.i64.wrap num).tmod 3 = 0 := by rw [wn]; exact q
                  have qk : (num.tmod (3 : Nat)).toNat = 0 := by rw [show (((3 : Nat)) : Int) = 3 from rfl, q]; rfl
                  rw [qk]
                  exact ok41_3tick0 E w num what qn h1 h2 h3 h4 h5 h6 h7
                · have qn : (IntKind.i64.wrap num).tmod 3 = 1 := by rw [wn]; exact q
                  have qk : (num.tmod (3 : Nat)).toNat = 1 := by rw [show (((3 : Nat)) : Int) = 3 from rfl, q]; rfl
                  rw [qk]
                  exact ok41_3tick1 E w num what qn h1 h2 h3 h4 h5 h6 h7
                · have qn : (IntKind.i64.wrap num).tmod 3 = 2 := by rw [wn]; exact q
                  have qk : (num.tmod (3 : Nat)).toNat = 2 := by rw [show (((3 : Nat)) : Int) = 3 from rfl, q]; rfl
                  rw [qk]
                  exact ok41_3tick2 E w num what qn h1 h2 h3 h4 h5 h6 h7

def preHap3 (l : List SV) (num : Int) (H : List AB) : Prop := ((.agg l : SV) = eW 3 (decV3 H l) ∧ H = hW3 (decV3 H l) ++ H.drop 13) ∧ Fit 3 (decV3 H l) ∧ 0 ≤ num ∧ num < 256
def tU3 (w : Wd) : List AB := [lS w, lN w.x0, lN w.x1, lN w.x2]
/-- What happens, in a heap that begins with the world. -/
def onHap3 (what num : Int) (l : List SV) (H : List AB) : Res :=
  ⟨preHap3 l num H, .tup [eWs 3 H.length ((decV3 H l).step 3 what num), .raw (.bool true)], hU0_3 H.length ((decV3 H l).step 3 what num) ++ H.drop 13 ++ tU3 ((decV3 H l).step 3 what num)⟩
theorem renU0_3 (τ : Nat → Nat) (a n : Nat) (t1 : ∀ j, j < 13 → τ j = j) (t2 : ∀ j, τ (a + j) = n + j) (u : Wd) : (hU0_3 a u).map (renB τ) = hU0_3 n u := by
  have hp := ptrs3 τ (t1 7 (by decide)) (t1 9 (by decide)) (t1 11 (by decide))
  simp only [hU0_3, encC, bN, ri, rb, List.cons_append, List.nil_append, List.map_cons, List.map_nil, renB, rens, ren, renEnts, hp, t1 0 (by decide), t1 1 (by decide), t1 2 (by decide), t2 1, t2 2, t2 3]
theorem eWs_ren3 (τ : Nat → Nat) (s : Nat) (t1 : ∀ j, j < 13 → τ j = j) (u : Wd) : ren τ (.tup [eWs 3 s u, rb true]) = .tup [eWs 3 (τ s) u, rb true] := by
  simp only [eWs, ren, rens, ri, rb, t1 0 (by decide), t1 3 (by decide), t1 5 (by decide), t1 6 (by decide)]
theorem eW_ren3 (τ : Nat → Nat) (t1 : ∀ j, j < 13 → τ j = j) (u : Wd) : ren τ (eW 3 u) = eW 3 u := by
  simp only [eW, ren, rens, ri, t1 0 (by decide), t1 3 (by decide), t1 4 (by decide), t1 5 (by decide), t1 6 (by decide)]
theorem onHap3_sound {E : Addr → Option Value} {what num : Int} {l : List SV} {H : List AB} (h : (onHap3 what num l H).pre) : Ok Try.prog E 41 [.agg l, .agg [.raw (.int .u8 what), .raw (.int .u8 num)]] H (onHap3 what num l H).val (onHap3 what num l H).heap := by
  obtain ⟨⟨h1, h2⟩, h3, h4, h5⟩ := h
  show Ok Try.prog E 41 [.agg l, .agg [.raw (.int .u8 what), .raw (.int .u8 num)]] H (.tup [eWs 3 H.length ((decV3 H l).step 3 what num), .raw (.bool true)]) (hU0_3 H.length ((decV3 H l).step 3 what num) ++ H.drop 13 ++ tU3 ((decV3 H l).step 3 what num))
  have key := hap3 E (decV3 H l) what num h3 h4 h5
  rw [h1]
  revert h2
  generalize H.drop 13 = X
  intro h2
  revert key
  generalize decV3 H l = w at *
  generalize w.step 3 what num = u
  intro key
  subst h2
  have t1 : ∀ j, j < 13 → sig (List.range 13) (hW3 w ++ X).length j = j := fun j hj => by rw [sig_lt (by simpa using hj)]; simp
  have t2 : sig (List.range 13) (hW3 w ++ X).length 13 = (hW3 w ++ X).length := by rw [sig_ge (by simp)]; simp
  have hargs : ∀ τ : Nat → Nat, (∀ j, j < 13 → τ j = j) → rens τ [eW 3 w, .agg [.raw (.int .u8 what), .raw (.int .u8 num)]] = [eW 3 w, .agg [.raw (.int .u8 what), .raw (.int .u8 num)]] := fun τ ht => by
    simp only [rens, eW_ren3 τ ht, ren]
  have hs : scs 13 [eW 3 w, .agg [.raw (.int .u8 what), .raw (.int .u8 num)]] = true := by simp only [scs, sc, eW, ri]; rfl
  have := Ok.first 13 (A := hW3 w) (B := hU0_3 13 u) (B' := hU0_3 (hW3 w ++ X).length u) (N := tU3 u) key X rfl rfl (fun τ a b => ⟨hargs τ a, renW3 τ a w, renU0_3 τ _ _ a b u⟩) hs (hwk_hW3 w)
  simp only [eWs_ren3 _ _ t1, t2, tU3, List.map_cons, List.map_nil, lS_ren, lN_ren] at this
  exact this
end Go.Proofs.Ytmnpnnegnlhemaa.Eng
namespace Go.Proofs.Ytmnpnnegnlhemaa.Eng
open Go

def w0_3 (T S : Int) : Wd := ⟨newC 3 T S, newN 1 T, newN 2 T, newN 3 T, 0, fun _ => 0, fun _ => 0, fun _ => 0, fun _ => 0, fun _ => 0, S⟩
def eW0_3 (S : Int) : SV := .agg [.ptr 0 0, .lst 3 1 0 3, .raw (.slice none 0 0), .lst 5 1 0 3, .lst 6 1 0 3, ri S]
def t40_3 (T : Int) (i : Nat) : List SV := [.junk, .junk, .ptr 7 0, .junk, ri 3, ri T, .junk, .ptr 0 0, ri 0, .ptr 6 0, ri (i : Int)] ++ junks 63
def h40_3 (T S : Int) : Nat → List AB
  | 0 => encC (newC 3 T S) ++ [.lst 0 1 (fun k => lg [] k) 30, .lst 3 1 (fun _ => [ri 0]) 3, .lst 3 1 (fun _ => [ri 0]) 3, .cells [.ptr 0 0, .lst 3 1 0 0, .raw (.slice none 0 0), .lst 4 1 0 3, .lst 5 1 0 3, ri S] 75, .cells [.raw (.pointer none), .raw (.slice none 0 0), .raw (.slice none 0 0), .raw (.slice none 0 0), .raw (.slice none 0 0), ri 0] 75]
  | 1 => encC (newC 3 T S) ++ [.lst 1 1 (fun k => lg [[.ptr 8 0]] k) 30, .lst 3 1 (fun _ => [ri 0]) 3, .lst 3 1 (fun _ => [ri 0]) 3, .cells [.ptr 0 0, .lst 3 1 0 1, .raw (.slice none 0 0), .lst 4 1 0 3, .lst 5 1 0 3, ri S] 75, .cells [.raw (.pointer none), .raw (.slice none 0 0), .raw (.slice none 0 0), .raw (.slice none 0 0), .raw (.slice none 0 0), ri 0] 75, bN (newN 1 T) 9, lN (newN 1 T)]
  | 2 => encC (newC 3 T S) ++ [.lst 2 1 (fun k => lg [[.ptr 8 0], [.ptr 10 0]] k) 30, .lst 3 1 (fun _ => [ri 0]) 3, .lst 3 1 (fun _ => [ri 0]) 3, .cells [.ptr 0 0, .lst 3 1 0 2, .raw (.slice none 0 0), .lst 4 1 0 3, .lst 5 1 0 3, ri S] 75, .cells [.raw (.pointer none), .raw (.slice none 0 0), .raw (.slice none 0 0), .raw (.slice none 0 0), .raw (.slice none 0 0), ri 0] 75, bN (newN 1 T) 9, lN (newN 1 T), bN (newN 2 T) 11, lN (newN 2 T)]
  | _ => encC (newC 3 T S) ++ [.lst 3 1 (fun k => lg [[.ptr 8 0], [.ptr 10 0], [.ptr 12 0]] k) 30, .lst 3 1 (fun _ => [ri 0]) 3, .lst 3 1 (fun _ => [ri 0]) 3, .cells [.ptr 0 0, .lst 3 1 0 3, .raw (.slice none 0 0), .lst 4 1 0 3, .lst 5 1 0 3, ri S] 75, .cells [.raw (.pointer none), .raw (.slice none 0 0), .raw (.slice none 0 0), .raw (.slice none 0 0), .raw (.slice none 0 0), ri 0] 75, bN (newN 1 T) 9, lN (newN 1 T), bN (newN 2 T) 11, lN (newN 2 T), bN (newN 3 T) 13, lN (newN 3 T)]

set_option maxHeartbeats 2000000 in
set_option maxRecDepth 100000 in
theorem ok40_3 (E : Addr → Option Value) (a b c T S : Int) (ha : (IntKind.i64.wrap a).tmod 3 = 2) (hT : IntKind.i64.wrap (1 + (IntKind.i64.wrap b).tmod 12) = T) (hS : IntKind.i64.wrap (50 * (IntKind.i64.wrap c).tmod 21) = S) (hc : cenOk 3 T S = true) (hn1 : nodeOk 1 T = true) (hn2 : nodeOk 2 T = true) (hn3 : nodeOk 3 T = true) :
    Ok Try.prog E 40 [.agg [.raw (.int .u8 a), .raw (.int .u8 b), .raw (.int .u8 c)]] [] (.tup [eW0_3 S, rb true]) (hW3 (w0_3 T S)) := by
  refine ok_of_engR (pl := pl40) mixed (cM_sound E) Try.func40 rfl rfl (by kernel_rfl) (by simp [hW3, encC]) 200 (fun F _ hG => ?_)
  simp only [Try.f40, pl40, cM, c13, newC, encC, w3, cast3, ha, hT, hS, hc, ri, rb, renB, rens, ren, renEnts, sig, updH, ↓engE, drawE_mk, eng, litSt, srunA_nil, srunA_b, stepR, contB_mk, r0, regC, sop, unw, strip, sev, tg, tset, tput, undefs, needs, opNeeds, sBin, ibin, shiftOp, gdst, onth, sLoad, sStore, sExtract, sIndex, sNew, sAlloc, sBox, sFill, sBuild, sMake, sCall, sConv, cellsAt, hget, hset, hd1, vcells, one, whole, splice, holeAt, idxAt, pushAt, isHole, nth, drawSt, preL, chkL, chk, chk2, stp, nxtB_mk, pref_0, pref_b, hpOf, effD, effAt, effOp, pureOp, readOp, allocOp, insE, qAt, holes, List.length_cons, List.length_nil, List.cons_append, List.nil_append, List.append_nil, List.map_cons, List.map_nil, List.take_succ_cons, List.take_zero, List.take_nil, List.drop_succ_cons, List.drop_zero, List.drop_nil, List.all_cons, List.all_nil, List.filter_cons, List.filter_nil, List.contains_cons, List.contains_nil, List.getElem?_cons_zero, List.getElem?_cons_succ, List.getElem?_nil, true_and, and_true, and_self, or_true, not_false_eq_true, eq_self, ne_eq, Bool.false_eq_true, Bool.not_true, Bool.not_false, Bool.and_true, Bool.or_true, Bool.or_false, Bool.false_or, Bool.and_self, Nat.zero_add, Nat.add_zero, Nat.mul_one, Nat.sub_zero, Nat.le_refl, Int.toNat_zero, Option.getD_none, Value.oneCell', ↓reduceIte, Nat.reduceAdd, Nat.reduceSub, Nat.reduceLeDiff, Nat.reduceBEq, Int.reduceLT, Int.reduceLE, Int.reduceEq, Int.reduceToNat, Int.reduceAdd, ts3, tb3, tz3, ti3, tk5, ts5, ta5, ti5, tr69, te73, tk75, ts75, tz75, tpl75]
  refine ⟨by decide, Nat, t40_3 T, h40_3 T S, fun i => i ≤ 3, fun i => 3 - i, 0, by omega, ⟨some [2, 3, 4, 99, 5, 6, 7, 1], ?_⟩, ?_⟩
  · simp only [NwO, Nw, t40_3, h40_3, newC, encC, junks, ri, rb, Int.natCast_zero, NwO, Nw, wk, renJ, renJs, mvH, hgetO, memB, posG, jp, renJB, renJEnts, vwks, vwk1, hwk, bwk, sc, scs, scEnts, lg, List.length_cons, List.length_nil, List.cons_append, List.nil_append, List.take_zero, and_true, and_self, implies_true, eq_self, Bool.and_self, decide_true, decide_false, Nat.zero_add, Nat.le_refl, reduceCtorEq, Nat.reduceAdd, Nat.reduceLT, Nat.reduceLeDiff, Nat.reduceEqDiff, Int.reduceToNat] <;> (and_intros <;> first | rfl | (intro k hk; (rcases k with _ | _ | _ | k <;> first | rfl | omega)))
  · rintro i hi F' hN hX
    have hi3 : i = 0 ∨ i = 1 ∨ i = 2 ∨ i = 3 := by omega
    rcases hi3 with rfl | rfl | rfl | rfl
    · simp only [t40_3, h40_3, junks, pl40, cM, c14, newC, newN, encC, encN, lg, w1, hn1, Int.natCast_zero, ri, rb, renB, rens, ren, sig, updH, eng, litSt, srunA_nil, srunA_b, stepR, contB_mk, r0, r1, r2, regC, sop, unw, strip, sev, tg, tset, tput, needs, opNeeds, sBin, ibin, shiftOp, gb, gslot, gdst, onth, wants, sPick, selC, sLoad, sStore, sExtract, sField, sFill, sLit, sApp, sCall, sBuiltin, cellsAt, hget, hset, hd1, vcells, one, whole, splice, holeAt, idxAt, pushAt, zrep, tgt, src, allK, lg, List.length_cons, List.length_nil, List.cons_append, List.nil_append, List.append_nil, List.map_cons, List.map_nil, List.take_succ_cons, List.take_zero, List.take_nil, List.drop_succ_cons, List.drop_zero, List.drop_nil, List.all_cons, List.all_nil, List.getElem?_cons_zero, List.getElem?_cons_succ, List.getElem?_nil, true_and, and_self, or_true, implies_true, not_false_eq_true, eq_self, ne_eq, Bool.false_eq_true, Bool.not_true, Bool.not_false, Bool.and_self, Bool.cond_false, decide_true, Nat.zero_add, Nat.add_zero, Nat.mul_one, Nat.one_mul, Nat.sub_zero, Nat.le_refl, Option.getD_none, reduceCtorEq, ↓reduceIte, Nat.reduceAdd, Nat.reduceLT, Nat.reduceLeDiff, Int.reduceLT, Int.reduceToNat, Int.reduceAdd, tk30, ts30, tb30, tz30, tp30, tk71, ts71, ta71, te71, tf75_1]
      refine hN (some [0, 1, 2, 11, 4, 5, 6, 7, 8, 9]) 1 _ _ (by omega) (by simp only; omega) ?_
      simp only [NwO, Nw, t40_3, h40_3, newC, newN, encC, bN, lN, junks, ri, rb, Int.natCast_one, NwO, Nw, wk, renJ, renJs, mvH, hgetO, memB, posG, jp, renJB, renJEnts, vwks, vwk1, hwk, bwk, sc, scs, scEnts, app, lg, List.length_cons, List.length_nil, List.cons_append, List.nil_append, List.take_zero, true_and, and_true, and_self, implies_true, eq_self, Bool.and_self, decide_true, decide_false, Nat.zero_add, Nat.add_zero, Nat.sub_zero, Nat.le_refl, reduceCtorEq, Nat.reduceAdd, Nat.reduceLT, Nat.reduceLeDiff, Nat.reduceEqDiff, Int.reduceToNat] <;> (and_intros <;> first | rfl | (intro k hk; (rcases k with _ | _ | _ | k <;> first | rfl | omega)))
    · simp only [t40_3, h40_3, junks, pl40, cM, c14, newC, newN, encC, encN, lg, bN, lN, w2, cast1, hn2, cast1, ri, rb, renB, rens, ren, sig, updH, eng, litSt, srunA_nil, srunA_b, stepR, contB_mk, r0, r1, r2, regC, sop, unw, strip, sev, tg, tset, tput, needs, opNeeds, sBin, ibin, shiftOp, gb, gslot, gdst, onth, wants, sPick, selC, sLoad, sStore, sExtract, sField, sFill, sLit, sApp, sCall, sBuiltin, cellsAt, hget, hset, hd1, vcells, one, whole, splice, holeAt, idxAt, pushAt, zrep, tgt, src, allK, lg, List.length_cons, List.length_nil, List.cons_append, List.nil_append, List.append_nil, List.map_cons, List.map_nil, List.take_succ_cons, List.take_zero, List.take_nil, List.drop_succ_cons, List.drop_zero, List.drop_nil, List.all_cons, List.all_nil, List.getElem?_cons_zero, List.getElem?_cons_succ, List.getElem?_nil, true_and, and_self, or_true, implies_true, not_false_eq_true, eq_self, ne_eq, Bool.false_eq_true, Bool.not_true, Bool.not_false, Bool.and_self, Bool.cond_false, decide_true, Nat.zero_add, Nat.add_zero, Nat.mul_one, Nat.sub_zero, Nat.le_refl, Option.getD_none, reduceCtorEq, ↓reduceIte, Nat.reduceAdd, Nat.reduceMul, Nat.reduceLT, Nat.reduceLeDiff, Int.reduceLT, Int.reduceToNat, Int.reduceAdd, tk30, ts30, tb30, tz30, tp30, tk71, ts71, ta71, te71, tf75_1]
      refine hN (some [0, 1, 2, 13, 4, 5, 6, 7, 8, 9, 10, 11]) 2 _ _ (by omega) (by simp only; omega) ?_
      simp only [NwO, Nw, t40_3, h40_3, newC, newN, encC, bN, lN, junks, ri, rb, cast2, NwO, Nw, wk, renJ, renJs, mvH, hgetO, memB, posG, jp, renJB, renJEnts, vwks, vwk1, hwk, bwk, sc, scs, scEnts, app, lg, List.length_cons, List.length_nil, List.cons_append, List.nil_append, List.take_zero, true_and, and_true, and_self, implies_true, eq_self, Bool.and_self, decide_true, decide_false, Nat.zero_add, Nat.add_zero, Nat.le_refl, reduceCtorEq, Nat.reduceAdd, Nat.reduceLT, Nat.reduceLeDiff, Nat.reduceEqDiff, Int.reduceToNat] <;> (and_intros <;> first | rfl | (intro k hk; (rcases k with _ | _ | _ | k <;> first | rfl | omega)))
    · simp only [t40_3, h40_3, junks, pl40, cM, c14, newC, newN, encC, encN, lg, bN, lN, w3, cast2, hn3, cast2, ri, rb, renB, rens, ren, sig, updH, eng, litSt, srunA_nil, srunA_b, stepR, contB_mk, r0, r1, r2, regC, sop, unw, strip, sev, tg, tset, tput, needs, opNeeds, sBin, ibin, shiftOp, gb, gslot, gdst, onth, wants, sPick, selC, sLoad, sStore, sExtract, sField, sFill, sLit, sApp, sCall, sBuiltin, cellsAt, hget, hset, hd1, vcells, one, whole, splice, holeAt, idxAt, pushAt, zrep, tgt, src, allK, lg, List.length_cons, List.length_nil, List.cons_append, List.nil_append, List.append_nil, List.map_cons, List.map_nil, List.take_succ_cons, List.take_zero, List.take_nil, List.drop_succ_cons, List.drop_zero, List.drop_nil, List.all_cons, List.all_nil, List.getElem?_cons_zero, List.getElem?_cons_succ, List.getElem?_nil, true_and, and_self, or_true, implies_true, not_false_eq_true, eq_self, ne_eq, Bool.false_eq_true, Bool.not_true, Bool.not_false, Bool.and_self, Bool.cond_false, decide_true, Nat.zero_add, Nat.add_zero, Nat.mul_one, Nat.sub_zero, Nat.le_refl, Option.getD_none, reduceCtorEq, ↓reduceIte, Nat.reduceAdd, Nat.reduceMul, Nat.reduceLT, Nat.reduceLeDiff, Int.reduceLT, Int.reduceToNat, Int.reduceAdd, tk30, ts30, tb30, tz30, tp30, tk71, ts71, ta71, te71, tf75_1]
      refine hN (some [0, 1, 2, 15, 4, 5, 6, 7, 8, 9, 10, 11, 12, 13]) 3 _ _ (by omega) (by simp only; omega) ?_
      simp only [NwO, Nw, t40_3, h40_3, newC, newN, encC, bN, lN, junks, ri, rb, cast3, NwO, Nw, wk, renJ, renJs, mvH, hgetO, memB, posG, jp, renJB, renJEnts, vwks, vwk1, hwk, bwk, sc, scs, scEnts, app, lg, List.length_cons, List.length_nil, List.cons_append, List.nil_append, List.take_zero, true_and, and_true, and_self, implies_true, eq_self, Bool.and_self, decide_true, decide_false, Nat.zero_add, Nat.add_zero, Nat.le_refl, reduceCtorEq, Nat.reduceAdd, Nat.reduceLT, Nat.reduceLeDiff, Nat.reduceEqDiff, Int.reduceToNat] <;> (and_intros <;> first | rfl | (intro k hk; (rcases k with _ | _ | _ | k <;> first | rfl | omega)))
    · simp only [t40_3, h40_3, junks, pl40, newC, newN, encC, lg, bN, lN, cast3, ri, rb, eng, litSt, srunA_nil, srunA_b, stepR, contB_mk, r0, regC, sop, unw, strip, sev, tg, tset, tput, needs, opNeeds, sBin, ibin, shiftOp, selC, lg, List.cons_append, List.nil_append, true_and, and_self, or_true, eq_self, Bool.false_eq_true, decide_false, Nat.add_zero, Nat.reduceAdd, Int.reduceLT, Int.reduceToNat]
      refine hX _ _ _ (by simp) ?_
      simp only [popF, pl40, eng, litSt, srunA_nil, srunA_b, stepR, contB_mk, r0, r1, r2, regC, sop, unw, strip, sev, tg, tset, tput, needs, opNeeds, sBin, ibin, shiftOp, gb, gslot, gdst, onth, wants, sPick, popF, exitC, sLoad, sStore, cellsAt, hget, hset, vcells, one, splice, List.length_cons, List.length_nil, List.nil_append, List.append_nil, List.take_succ_cons, List.take_zero, List.take_nil, List.drop_succ_cons, List.drop_zero, List.drop_nil, List.all_cons, List.all_nil, true_and, and_self, or_true, implies_true, eq_self, Bool.true_eq_false, Bool.false_eq_true, Bool.and_self, Bool.cond_true, decide_true, Nat.zero_add, Nat.le_refl, Value.oneCell', ↓reduceIte, Nat.reduceAdd, Nat.reduceBEq, tp27, tk75, ts75, ta75]
      exact hG [0, 1, 2, 3, 99, 4, 5, 8, 9, 10, 11, 12, 13] _ _ _ ⟨trivial, rfl, by simp only [Try.f40, w0_3, eW0_3, hW3, newC, newN, encC, bN, lN, ri, rb, renR, renJ, renJs, mvH, hgetO, memB, posG, jp, renJB, renJEnts, retP, sResults, sRes1, resK, retV, vwk, vwks, vwk1, hwk, bwk, sc, scs, scEnts, tg, sLoad, cellsAt, hget, lg, List.length_cons, List.length_nil, List.cons_append, List.nil_append, List.take_succ_cons, List.take_nil, List.drop_zero, true_and, and_true, and_self, implies_true, eq_self, Bool.and_self, decide_true, decide_false, Nat.zero_add, Nat.add_zero, Nat.le_refl, reduceCtorEq, Nat.reduceAdd, Nat.reduceLT, Nat.reduceLeDiff, Nat.reduceEqDiff, Int.reduceToNat, tk75, ts75, ta75] <;> (and_intros <;> first | rfl | (intro k hk; (rcases k with _ | _ | _ | k <;> first | rfl | omega)))⟩

def t42_3 (w : Wd) (i : Nat) : List SV := [.junk, .ptr 17 0, .junk, ri (w.cntI i), ri (i : Int)] ++ junks 21
def h42_3 (w : Wd) : List AB := hU3 w ++ [.cells [.ptr 0 0, .lst 3 1 0 3, .lst 13 3 0 w.sl, .lst 5 1 0 3, .lst 6 1 0 3, ri w.slow] 75]
set_option maxHeartbeats 2000000 in
set_option maxRecDepth 100000 in
theorem ok42_3 (E : Addr → Option Value) (w : Wd) : Ok Try.prog E 42 [eWs 3 13 w] (hU3 w) (ri (w.cntI 3)) (hU3 w) := by
  refine ok_of_eng (pl := pl42) mixed (cK_sound E) Try.func42 rfl rfl (by kernel_rfl) (by simp) 100 (fun F hF => ?_)
  have hq : (∀ F' : Fin, True) := fun _ => trivial
  cases hc : w.c.holds <;>
  simp only [Try.f42, pl42, eWs, hU3, hU0_3, lS, cK, onK, decC2, ivn, cellOf, lstN, lstF, encC, bN, lN, lg, Cen.eta, hc, w1, ri, rb, eng, litSt, srunA_nil, srunA_b, stepR, contB_mk, r0, regC, sop, unw, strip, sev, tg, tset, tput, undefs, needs, opNeeds, sBin, ibin, shiftOp, selC, sLoad, sField, sBox, sCall, cellsAt, hget, hd1, vcells, one, holeAt, idxAt, pushAt, lg, List.length_cons, List.length_nil, List.cons_append, List.nil_append, List.map_cons, List.map_nil, List.take_succ_cons, List.take_zero, List.drop_succ_cons, List.drop_zero, List.all_cons, List.all_nil, true_and, and_self, or_true, not_false_eq_true, eq_self, ne_eq, Bool.false_eq_true, Bool.and_self, Nat.zero_add, Nat.add_zero, reduceCtorEq, Value.oneCell', Nat.reduceAdd, Nat.reduceSub, Nat.reduceLeDiff, Int.reduceAdd, tk27, ta27, tf75_0] <;>
  (refine ⟨Nat, t42_3 w, fun _ => h42_3 w, fun i => i ≤ 3, fun i => 3 - i, 0, by omega, ⟨none, ?_⟩, ?_⟩
   · simp only [NwO, Nw, t42_3, h42_3, Wd.cntI, hc, hU3, hU0_3, lS, encC, bN, lN, junks, ri, rb, Int.natCast_zero, NwO, Nw, wk, vwks, vwk1, hwk, bwk, sc, scs, scEnts, lg, List.length_cons, List.length_nil, List.cons_append, List.nil_append, true_and, and_true, and_self, implies_true, eq_self, Bool.and_self, decide_true, Nat.zero_add, Nat.le_refl, Nat.reduceAdd, Nat.reduceLT, Nat.reduceLeDiff] <;> (and_intros <;> first | rfl | (intro k hk; (rcases k with _ | _ | _ | k <;> first | rfl | omega)))
   · rintro i hi F' hN hX
     have hi3 : i = 0 ∨ i = 1 ∨ i = 2 ∨ i = 3 := by omega
     rcases hi3 with rfl | rfl | rfl | rfl
     · cases hh : w.x0.holds <;>
         simp only [t42_3, h42_3, junks, pl42, hU3, hU0_3, lS, cK, cM, onNat, allN, sigN, decN, decN2, ren, rens, lix, ivn, lof, lln, el0, el1, cellOf, lstF, nodupB, encC, encN, bN, lN, lg, Nod.eta, hh, cast3, Int.natCast_zero, w1, ri, rb, renB, rens, ren, sig, subH, updH, eng, litSt, srunA_nil, srunA_b, stepR, contB_mk, r0, regC, sop, unw, strip, sev, tg, tset, tput, needs, opNeeds, sBin, ibin, shiftOp, selC, sLoad, sField, sIndex, sLen, sCall, sBuiltin, cellsAt, hget, hset, hd1, lg, List.length_cons, List.length_nil, List.cons_append, List.nil_append, List.append_nil, List.map_cons, List.map_nil, List.take_succ_cons, List.take_zero, List.take_nil, List.drop_succ_cons, List.drop_zero, List.contains_cons, List.contains_nil, List.getElem?_cons_zero, List.getElem?_cons_succ, true_and, and_self, or_true, not_false_eq_true, eq_self, ne_eq, Bool.false_eq_true, Bool.not_false, Bool.or_false, Bool.and_self, decide_true, Nat.zero_add, Nat.add_zero, Nat.le_refl, Int.toNat_zero, Option.getD_some, reduceCtorEq, Nat.reduceAdd, Nat.reduceSub, Nat.reduceLT, Nat.reduceLeDiff, Nat.reduceBEq, Int.reduceLT, Int.reduceLE, Int.reduceAdd, tk30, ts30, ta30, tk71, ta71, te71, tf75_1] <;>
         (refine hN none 1 _ _ (by omega) (by simp only; omega) ?_
          simp only [NwO, Nw, t42_3, h42_3, Wd.cntI, Wd.nd, hh, hU3, hU0_3, lS, encC, bN, lN, junks, ri, rb, cast1, NwO, Nw, wk, vwks, vwk1, hwk, bwk, sc, scs, scEnts, lg, List.length_cons, List.length_nil, List.cons_append, List.nil_append, true_and, and_true, and_self, implies_true, eq_self, Bool.and_self, decide_true, Nat.zero_add, Nat.le_refl, Nat.reduceAdd, Nat.reduceLT, Nat.reduceLeDiff] <;> (and_intros <;> first | rfl | (intro k hk; (rcases k with _ | _ | _ | k <;> first | rfl | omega))))
     · cases hh : w.x1.holds <;>
         simp only [t42_3, h42_3, junks, pl42, hU3, hU0_3, lS, cK, cM, onNat, allN, sigN, decN, decN2, ren, rens, lix, ivn, lof, lln, el0, el1, cellOf, lstF, nodupB, encC, encN, bN, lN, lg, Nod.eta, hh, cast1, cast3, w2, ri, rb, renB, rens, ren, sig, subH, updH, eng, litSt, srunA_nil, srunA_b, stepR, contB_mk, r0, regC, sop, unw, strip, sev, tg, tset, tput, needs, opNeeds, sBin, ibin, shiftOp, selC, sLoad, sField, sIndex, sLen, sCall, sBuiltin, cellsAt, hget, hset, hd1, lg, List.length_cons, List.length_nil, List.cons_append, List.nil_append, List.append_nil, List.map_cons, List.map_nil, List.take_succ_cons, List.take_zero, List.take_nil, List.drop_succ_cons, List.drop_zero, List.contains_cons, List.contains_nil, List.getElem?_cons_zero, List.getElem?_cons_succ, true_and, and_self, or_true, not_false_eq_true, eq_self, ne_eq, Bool.false_eq_true, Bool.not_false, Bool.or_false, Bool.and_self, decide_true, Nat.zero_add, Nat.add_zero, Nat.le_refl, Option.getD_some, reduceCtorEq, Nat.reduceAdd, Nat.reduceSub, Nat.reduceLT, Nat.reduceLeDiff, Nat.reduceBEq, Int.reduceLT, Int.reduceLE, Int.reduceToNat, Int.reduceAdd, tk30, ts30, ta30, tk71, ta71, te71, tf75_1] <;>
         (refine hN none 2 _ _ (by omega) (by simp only; omega) ?_
          simp only [NwO, Nw, t42_3, h42_3, Wd.cntI, Wd.nd, hh, hU3, hU0_3, lS, encC, bN, lN, junks, ri, rb, cast2, NwO, Nw, wk, vwks, vwk1, hwk, bwk, sc, scs, scEnts, lg, List.length_cons, List.length_nil, List.cons_append, List.nil_append, true_and, and_true, and_self, implies_true, eq_self, Bool.and_self, decide_true, Nat.zero_add, Nat.le_refl, Nat.reduceAdd, Nat.reduceLT, Nat.reduceLeDiff] <;> (and_intros <;> first | rfl | (intro k hk; (rcases k with _ | _ | _ | k <;> first | rfl | omega))))
     · cases hh : w.x2.holds <;>
         simp only [t42_3, h42_3, junks, pl42, hU3, hU0_3, lS, cK, cM, onNat, allN, sigN, decN, decN2, ren, rens, lix, ivn, lof, lln, el0, el1, cellOf, lstF, nodupB, encC, encN, bN, lN, lg, Nod.eta, hh, cast2, cast3, w3, ri, rb, renB, rens, ren, sig, subH, updH, eng, litSt, srunA_nil, srunA_b, stepR, contB_mk, r0, regC, sop, unw, strip, sev, tg, tset, tput, needs, opNeeds, sBin, ibin, shiftOp, selC, sLoad, sField, sIndex, sLen, sCall, sBuiltin, cellsAt, hget, hset, hd1, lg, List.length_cons, List.length_nil, List.cons_append, List.nil_append, List.append_nil, List.map_cons, List.map_nil, List.take_succ_cons, List.take_zero, List.take_nil, List.drop_succ_cons, List.drop_zero, List.contains_cons, List.contains_nil, List.getElem?_cons_zero, List.getElem?_cons_succ, true_and, and_self, or_true, not_false_eq_true, eq_self, ne_eq, Bool.false_eq_true, Bool.not_false, Bool.or_false, Bool.and_self, decide_true, Nat.zero_add, Nat.add_zero, Nat.le_refl, Option.getD_some, reduceCtorEq, Nat.reduceAdd, Nat.reduceSub, Nat.reduceLT, Nat.reduceLeDiff, Nat.reduceBEq, Int.reduceLT, Int.reduceLE, Int.reduceToNat, Int.reduceAdd, tk30, ts30, ta30, tk71, ta71, te71, tf75_1] <;>
         (refine hN none 3 _ _ (by omega) (by simp only; omega) ?_
          simp only [NwO, Nw, t42_3, h42_3, Wd.cntI, Wd.nd, hh, hU3, hU0_3, lS, encC, bN, lN, junks, ri, rb, cast3, NwO, Nw, wk, vwks, vwk1, hwk, bwk, sc, scs, scEnts, lg, List.length_cons, List.length_nil, List.cons_append, List.nil_append, true_and, and_true, and_self, implies_true, eq_self, Bool.and_self, decide_true, Nat.zero_add, Nat.le_refl, Nat.reduceAdd, Nat.reduceLT, Nat.reduceLeDiff] <;> (and_intros <;> first | rfl | (intro k hk; (rcases k with _ | _ | _ | k <;> first | rfl | omega))))
     · simp only [t42_3, h42_3, junks, pl42, hU3, hU0_3, lS, encC, bN, lN, lg, cast3, ri, rb, eng, litSt, srunA_nil, srunA_b, stepR, contB_mk, r0, regC, sop, unw, strip, sev, tg, tset, tput, needs, opNeeds, sBin, ibin, shiftOp, selC, sLoad, sField, sLen, sBuiltin, cellsAt, hget, hd1, lg, List.length_cons, List.length_nil, List.cons_append, List.nil_append, List.map_cons, List.map_nil, List.take_succ_cons, List.take_zero, List.drop_succ_cons, List.drop_zero, true_and, and_self, or_true, not_false_eq_true, eq_self, ne_eq, Bool.false_eq_true, decide_false, Nat.zero_add, reduceCtorEq, Nat.reduceAdd, Nat.reduceLeDiff, Int.reduceLT, tk71, ta71, te71, tf75_1]
       refine hX _ _ _ (by simp) ?_
       simp only [popF, pl42, eng, litSt, srunA_nil, srunA_b, stepR, contB_mk, r0, regC, sop, unw, strip, sev, tg, tset, tput, needs, opNeeds, popF, exitC, true_and, and_self, Nat.reduceBEq]
       exact hF _ _ _ ⟨trivial, by simp only [Try.f42, hU3, hU0_3, lS, encC, bN, lN, ri, rb, retP, sResults, sRes1, resK, retV, vwk, vwks, vwk1, hwk, bwk, sc, scs, scEnts, tg, lg, List.length_cons, List.length_nil, List.cons_append, List.nil_append, true_and, and_true, and_self, implies_true, eq_self, Bool.and_self, decide_true, Nat.zero_add, Nat.le_refl, Nat.reduceAdd, Nat.reduceLT] <;> (and_intros <;> first | rfl | (intro k hk; (rcases k with _ | _ | _ | k <;> first | rfl | omega)))⟩)
end Go.Proofs.Ytmnpnnegnlhemaa.Eng
namespace Go.Proofs.Ytmnpnnegnlhemaa.Eng
open Go

theorem etaL3 (w : Wd) : (⟨w.c, w.x0, w.x1, w.x2, w.sl, fun k => w.sk k, fun k => w.sn k, fun k => w.sm k, fun k => w.gap k, fun k => w.edge k, w.slow⟩ : Wd) = w := by
  cases w
  rfl
theorem cntI_e3 (w : Wd) : (⟨w.c, w.x0, w.x1, w.x2, w.sl, fun k => w.sk k, fun k => w.sn k, fun k => w.sm k, fun k => w.gap k, fun k => w.edge k, w.slow⟩ : Wd).cntI 3 = w.cntI 3 := rfl

def layOk3 (a b c : Int) : Prop := (IntKind.i64.wrap a).tmod 3 = 2 ∧ cenOk 3 (lT b) (lS0 c) = true ∧ nodeOk 1 (lT b) = true ∧ nodeOk 2 (lT b) = true ∧ nodeOk 3 (lT b) = true
def c40_3 : List SV → List AB → Res
  | [.agg [.raw (.int .u8 a), .raw (.int .u8 b), .raw (.int .u8 c)]], H => ⟨layOk3 a b c, ren (sig [] H.length) (.tup [eW0_3 (lS0 c), rb true]), updH (sig [] H.length) H [] (hW3 (w0_3 (lT b) (lS0 c)))⟩
  | _, _ => no
theorem c40_3_sound {E : Addr → Option Value} {args : List SV} {H : List AB} (h : (c40_3 args H).pre) : Ok Try.prog E 40 args H (c40_3 args H).val (c40_3 args H).heap := by
  unfold c40_3 at h ⊢
  split at h
  · rename_i a b c
    have hl : layOk3 a b c := h
    obtain ⟨h1, h2, n0, n1, n2⟩ := hl
    exact (ok40_3 E a b c (lT b) (lS0 c) h1 rfl rfl h2 n0 n1 n2).frame H [] trivial List.nodup_nil rfl trivial
  · exact h.elim

def decU3 (H : List AB) (l : List SV) : Wd :=
  ⟨decC2 (hget H 0) (hget H 1), decN2 (hget H 7) (hget H (lix (tg l 2) + 1)), decN2 (hget H 9) (hget H (lix (tg l 2) + 2)), decN2 (hget H 11) (hget H (lix (tg l 2) + 3)), lln (tg l 2), fun k => ivn (el0 (lstF (hget H (lix (tg l 2))) k)), fun k => ivn (el1 (lstF (hget H (lix (tg l 2))) k)), fun k => ivn (el2 (lstF (hget H (lix (tg l 2))) k)),
    fun k => ivn (hd1 (lstF (hget H 5) k)), fun k => ivn (hd1 (lstF (hget H 6) k)), ivn (tg l 5)⟩
/-- How many hold: the world lies at both ends of the heap. -/
def onHold3 (l : List SV) (H : List AB) : Res :=
  ⟨(((.agg l : SV) = eWs 3 (lix (tg l 2)) (decU3 H l) ∧ H = hU0_3 (lix (tg l 2)) (decU3 H l) ++ (H.drop 13).take (lix (tg l 2) - 13) ++ tU3 (decU3 H l)) ∧ 13 ≤ lix (tg l 2)) ∧ lix (tg l 2) ≤ H.length, .raw (.int .i64 ((decU3 H l).cntI 3)), H⟩
theorem hwk_hU3 (w : Wd) : hwk (hU3 w).length (hU3 w) (hU3 w) := by
  simp only [hU3, hU0_3, lS, encC, bN, lN, ri, rb, vwks, vwk1, hwk, bwk, sc, scs, scEnts, lg, List.length_cons, List.length_nil, List.cons_append, List.nil_append, true_and, and_true, and_self, implies_true, eq_self, Bool.and_self, decide_true, Nat.zero_add, Nat.le_refl, Nat.reduceAdd, Nat.reduceLT] <;> (and_intros <;> intro k hk <;> (rcases k with _ | _ | _ | k <;> first | rfl | omega))
theorem onHold3_sound {E : Addr → Option Value} {l : List SV} {H : List AB} (h : (onHold3 l H).pre) : Ok Try.prog E 42 [.agg l] H (onHold3 l H).val (onHold3 l H).heap := by
  obtain ⟨⟨⟨h1, h2⟩, h3⟩, h4⟩ := h
  show Ok Try.prog E 42 [.agg l] H (ri ((decU3 H l).cntI 3)) H
  have key := ok42_3 E (decU3 H l)
  have hX : ((H.drop 13).take (lix (tg l 2) - 13)).length = lix (tg l 2) - 13 := by
    rw [List.length_take, List.length_drop]; omega
  rw [h1]
  revert h4; revert h3; revert key; revert hX; revert h2
  generalize (H.drop 13).take (lix (tg l 2) - 13) = X
  generalize decU3 H l = w
  generalize lix (tg l 2) = n
  intro h2 hX key h3 h4
  have hn : n = 13 + X.length := by omega
  subst hn
  rw [h2]
  refine Ok.ends 13 (args' := [eWs 3 (13 + X.length) w]) (B := hU0_3 13 w) (N := tU3 w) (v := ri (w.cntI 3)) key X rfl rfl rfl (fun τ t1 t2 => ⟨?_, ?_, ?_, rfl⟩) (by simp only [scs, sc, eWs, ri]; rfl) (hwk_hU3 w)
  · have e := t2 0 (by simp [tU3])
    simp only [Nat.add_zero] at e
    simp only [rens, eWs, ren, ri, t1 0 (by decide), t1 3 (by decide), t1 5 (by decide), t1 6 (by decide), e]
  · have hp := ptrs3 τ (t1 7 (by decide)) (t1 9 (by decide)) (t1 11 (by decide))
    have e1 := t2 1 (by simp [tU3])
    have e2 := t2 2 (by simp [tU3])
    have e3 := t2 3 (by simp [tU3])
    simp only [Nat.reduceAdd] at e1 e2 e3
    simp only [hU0_3, encC, bN, ri, rb, List.cons_append, List.nil_append, List.map_cons, List.map_nil, renB, rens, ren, renEnts, hp, Nat.reduceAdd, t1 0 (by decide), t1 1 (by decide), t1 2 (by decide), e1, e2, e3]
  · simp only [tU3, List.map_cons, List.map_nil, lS_ren, lN_ren]

/-- What the laws on worlds call. -/
def ΓV3 : Con := fun f args H => match f with
  | .func 40 => c40_3 args H
  | .func 41 => match args with
    | [.agg l, .agg [.raw (.int .u8 what), .raw (.int .u8 num)]] => onHap3 what num l H
    | _ => no
  | .func 42 => match args with
    | [.agg l] => onHold3 l H
    | _ => no
  | .func 16 => c16 args H
  | .func 39 => match args with
    | [.ptr 0 0] => cK (.func 39) [.ptr 0 0] H
    | args => cM (.func 39) args H
  | f => cK f args H
theorem ΓV3_sound (E : Addr → Option Value) : Con.Sound Try.prog E ΓV3 := by
  intro f args H h
  unfold ΓV3 at h ⊢
  split at h
  · exact c40_3_sound h
  · split at h
    · exact onHap3_sound h
    · exact h.elim
  · split at h
    · exact onHold3_sound h
    · exact h.elim
  · exact c16_sound h
  · split at h
    · exact cK_sound E _ _ H h
    · exact cM_sound E _ _ H h
  · exact cK_sound E f args H h
theorem run0_3 {T S : Int} (hT : 1 ≤ T ∧ T ≤ 12) (hS : 0 ≤ S ∧ S ≤ 1000) : Run 3 T S 0 (w0_3 T S) := by
  refine run0 hT hS _ rfl (fun k hk => ?_) (fun k h1 h3 => ?_) rfl rfl rfl rfl
  · have hk3 : k = 0 ∨ k = 1 ∨ k = 2 := (by omega); rcases hk3 with rfl | rfl | rfl <;> rfl
  · omega
end Go.Proofs.Ytmnpnnegnlhemaa.Eng
