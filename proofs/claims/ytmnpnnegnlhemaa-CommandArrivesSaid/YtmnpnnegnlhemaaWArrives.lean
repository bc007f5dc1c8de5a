/- The law CommandArrives is true of the given program at every input: the engine's contract of the law's function, lifted to the given row. No condition. -/
import Derived.Test.YtmnpnnegnlhemaaGd
import Derived.Test.YtmnpnnegnlhemaaGe
import Derived.Test.YtmnpnnegnlhemaaGf
import Derived.Test.YtmnpnnegnlhemaaRows
import Derived.Test.YtmnpnnegnlhemaaGb
namespace Go.Proofs.Ytmnpnnegnlhemaa.Eng
open Go

theorem wait_small {T S : Int} (hT : 1 ≤ T ∧ T ≤ 12) (hS : 0 ≤ S ∧ S ≤ 1000) : wait T S ≤ 100 := by
  have h2 := Int.mul_le_mul hT.2 (show 1000 + S ≤ 2000 by omega) (by omega) (by decide)
  unfold wait
  generalize hq : T * (1000 + S) = q at *
  omega
/-- What holds behind j ticks of the centre. -/
structure BackI (W : Int) (j : Nat) (c : Cen) : Prop where
  le : (j : Int) ≤ W
  wait : c.wait = W
  since0 : 0 ≤ c.since
  since : c.since ≤ c.now
  now : c.now ≤ 1000000 + j
  gone : c.node ≠ 0 → c.since + j ≤ c.now ∧ (1 ≤ j → c.now < c.since + W)
theorem Run.back0 {p : Nat} {T S : Int} {t : Nat} {w : Wd} (h : Run p T S t w) (ht : (t : Int) ≤ 1000000 := by omega) (hW : 0 ≤ Eng.wait T S := by omega) : BackI (Eng.wait T S) 0 w.c :=
  ⟨by omega, h.base.wait, h.base.since0, h.base.since, by have := h.base.now; omega, fun _ => ⟨by have := h.base.since; omega, fun q => absurd q (by decide)⟩⟩
theorem BackI.full {W : Int} {j : Nat} {c : Cen} (h : BackI W j c) (hW : 1 ≤ W) (hj : decide ((j : Int) < W) = false) : c.holds = true := by
  have h1 := h.le
  have h2 := h.gone
  have hj' : ¬ (j : Int) < W := of_decide_eq_false hj
  unfold Cen.holds
  rw [decide_eq_true_eq]
  by_cases q : c.node = 0
  · exact q
  · obtain ⟨q1, q2⟩ := h2 q
    have := q2 (by omega)
    omega
theorem BackI.tick {W : Int} {j : Nat} {c : Cen} (h : BackI W j c) (hW : 1 ≤ W ∧ W ≤ 1000000) (hj : (j : Int) < W) : BackI W (j + 1) c.tick := by
  obtain ⟨h1, h2, h3, h4, h5, h6⟩ := h
  have e1 : IntKind.i64.wrap (c.now + 1) = c.now + 1 := w64 (by omega) (by omega)
  have e2 : IntKind.i64.wrap (c.since + c.wait) = c.since + W := by rw [h2]; exact w64 (by omega) (by omega)
  unfold Cen.tick
  cases ho : c.out with
  | true =>
    simp only [if_true]
    refine ⟨by omega, h2, Int.le_refl _, ?_, ?_, fun q => absurd rfl q⟩
    · show (0 : Int) ≤ IntKind.i64.wrap (c.now + 1); rw [e1]; omega
    · show IntKind.i64.wrap (c.now + 1) ≤ _; rw [e1]; omega
  | false =>
    simp only [Bool.false_eq_true, if_false]
    refine ⟨by omega, h2, h3, ?_, ?_, fun q => ?_⟩
    · show c.since ≤ IntKind.i64.wrap (c.now + 1); rw [e1]; omega
    · show IntKind.i64.wrap (c.now + 1) ≤ _; rw [e1]; omega
    · have q' : c.node ≠ 0 := q
      have := h6 q'
      unfold Cen.out at ho
      rw [e1, e2] at ho
      have hn : decide (c.node = 0) = false := decide_eq_false q'
      rw [hn] at ho
      have ho' : ¬ c.since + W ≤ c.now + 1 := by simpa using ho
      refine ⟨?_, fun _ => ?_⟩
      · show c.since + ((j + 1 : Nat) : Int) ≤ IntKind.i64.wrap (c.now + 1); rw [e1]; omega
      · show IntKind.i64.wrap (c.now + 1) < c.since + W; rw [e1]; omega
end Go.Proofs.Ytmnpnnegnlhemaa.Eng
namespace Go.Proofs.Ytmnpnnegnlhemaa.Eng
open Go

/-- The centre when nobody has the authority, and node k is wanted and asks. -/
structure ArrC (p : Nat) (k : Nat) (m : Int) (c1 : Cen) : Prop where
  hk : k < p ∧ p ≤ 3
  hm : 1 ≤ m ∧ m ≤ 1000002
  node : c1.node = 0
  wanted : c1.wanted = k + 1
  n : c1.n = p + 1
  gr : c1.gr (k + 1) < m

theorem arrC {p : Nat} {T S t : Int} {w : Wd} (hp : 1 ≤ p ∧ p ≤ 3) (ht : t ≤ 1000) (h : Run p T S t w) {k : Nat} (hk : k < p) (h0 : w.c.node = 0) : ArrC p k ((w.nd k).last + 1) (w.c.want (k + 1)) := by
  obtain ⟨e1, e2, e3, e4, e5, e6, e7⟩ := want_c w.c ((k : Int) + 1)
  have hx := h.base.nod k hk
  have hg := h.base.gr k hk
  have hw := (want_ok (tc := fun _ _ => 0) (ta := fun _ _ => 0) (e := fun _ => 0) (hh := 0) hp.2 h.base (v := (k : Int) + 1) (by omega) (by omega)).2.2.1
  refine ⟨⟨hk, hp.2⟩, by have := hx.last0; have := hx.last; omega, by rw [e6]; exact h0, hw, by rw [e2]; exact h.base.n, by rw [e5]; omega⟩

theorem ArrC.valid {p k : Nat} {m : Int} {c : Cen} (h : ArrC p k m c) (a : Int) (ha : 1 ≤ a ∧ a ≤ 3) : valid a (k + 1) m = true := by
  have := h.hk
  have := h.hm
  unfold Eng.valid
  simp
  omega
theorem ArrC.inn {p k : Nat} {m : Int} {c : Cen} (h : ArrC p k m c) : decide ((c.n : Int) ≤ (k : Int) + 1) = false := by
  have := h.hk
  rw [h.n]
  simp
  omega
theorem ArrC.got {p k : Nat} {m : Int} {c : Cen} (h : ArrC p k m c) : c.gives (k + 1) = true ∧ decide (m ≤ c.gr ((k : Int) + 1).toNat) = false := by
  refine ⟨?_, ?_⟩
  · unfold Cen.gives; rw [h.wanted, h.node]; simp
  · rw [show ((k : Int) + 1).toNat = k + 1 by omega]
    have := h.gr
    simp
    omega
theorem ArrC.reply {p k : Nat} {m : Int} {c : Cen} (h : ArrC p k m c) : c.reply 1 (k + 1) m = true ∧ c.err 1 (k + 1) m = 0 ∧ c.hear 1 (k + 1) m = { c with gr := upd c.gr (k + 1) m, node := k + 1, number := m, since := c.now } := by
  have hv := h.valid 1 (by decide)
  obtain ⟨g1, g2⟩ := h.got
  refine ⟨?_, ?_, ?_⟩
  · unfold Cen.reply Cen.got; rw [hv, h.inn, g1, g2]; rfl
  · unfold Cen.err; rw [hv, h.inn]; rfl
  · unfold Cen.hear Cen.ask
    rw [hv, h.inn, g1, g2, show ((k : Int) + 1).toNat = k + 1 by omega]
    rfl
theorem ArrC.held {p k : Nat} {m : Int} {c : Cen} (h : ArrC p k m c) : (c.hear 1 (k + 1) m).holds = false := by
  rw [h.reply.2.2]
  unfold Cen.holds
  simp
  omega
theorem hear3_eq (c : Cen) {n m : Int} (hv : Eng.valid 3 n m = true) (hn : decide ((c.n : Int) ≤ n) = false) : c.hear 3 n m = c.back n m := by
  unfold Cen.hear
  rw [hv, hn]
  rfl
theorem ArrC.back {p k : Nat} {m : Int} {c : Cen} (h : ArrC p k m c) : (c.hear 1 (k + 1) m).err 3 (k + 1) m = 0 ∧ ((c.hear 1 (k + 1) m).hear 3 (k + 1) m).holds = true := by
  have hv := h.valid 3 (by decide)
  have hn : decide (((c.hear 1 (k + 1) m).n : Int) ≤ (k : Int) + 1) = false := by rw [h.reply.2.2]; exact h.inn
  refine ⟨?_, ?_⟩
  · unfold Cen.err; rw [hv, hn]; rfl
  · rw [hear3_eq _ hv hn]
    unfold Cen.back Cen.drops
    rw [h.reply.2.2]
    simp [Cen.holds]

/-- The node i ticks behind its grant. -/
structure ArrN (T m now0 : Int) (k i : Nat) (y : Nod) : Prop where
  hn0 : 0 ≤ now0 ∧ now0 ≤ 1000000
  now : y.now = now0 + i
  en : y.en = now0 + T
  last : y.last = m
  hm : 1 ≤ m
  number : y.number = k + 1
  hT : 1 ≤ T ∧ T ≤ 12
  hi : (i : Int) ≤ T
theorem ArrN.holds {T m now0 : Int} {k i : Nat} {y : Nod} (h : ArrN T m now0 k i y) : y.holds = decide ((i : Int) < T) := by
  unfold Nod.holds
  rw [h.now, h.en, decide_eq_decide]
  omega
theorem ArrN.tick {T m now0 : Int} {k i : Nat} {y : Nod} (h : ArrN T m now0 k i y) (hi : (i : Int) < T) : ArrN T m now0 k (i + 1) y.tk := by
  have h1 := h.hn0
  have h2 := h.hT
  have e : IntKind.i64.wrap (y.now + 1) = y.now + 1 := w64 (by rw [h.now]; omega) (by rw [h.now]; omega)
  refine ⟨h.hn0, ?_, h.en, h.last, h.hm, h.number, h.hT, by omega⟩
  show IntKind.i64.wrap (y.now + 1) = _
  rw [e, h.now]
  omega
theorem ArrN.ret {T m now0 : Int} {k i : Nat} {y : Nod} (h : ArrN T m now0 k i y) : y.ret0 = 3 ∧ y.ret1 = k + 1 ∧ y.ret2 = m ∧ y.ret3 = 0 ∧ y.ret.holds = false := by
  have hl : decide (y.last = 0) = false := by have := h.last; have := h.hm; simp; omega
  refine ⟨by unfold Nod.ret0 bsl; rw [hl], by unfold Nod.ret1 bsl; rw [hl]; exact h.number, by unfold Nod.ret2 bsl; rw [hl]; exact h.last, by unfold Nod.ret3 bsl; rw [hl], ?_⟩
  unfold Nod.ret
  rw [hl]
  unfold Nod.holds Nod.fall
  simp

theorem arrN {p : Nat} {T S t : Int} {w : Wd} (hT : 1 ≤ T ∧ T ≤ 12) (ht : t ≤ 1000) (h : Run p T S t w) {k : Nat} (hk : k < p ∧ p ≤ 3) :
    (w.nd k).ask0 = 1 ∧ (w.nd k).ask1 = k + 1 ∧ (w.nd k).ask2 = (w.nd k).last + 1 ∧ (w.nd k).ask3 = 0 ∧ (w.nd k).len ≤ 1000000 ∧ (w.nd k).ask.len ≤ 1000000 ∧ (w.nd k).ask.hearE 2 (k + 1) ((w.nd k).last + 1) = 0 ∧
      ArrN T ((w.nd k).last + 1) (w.nd k).now k 0 ((w.nd k).ask.hear 2 (k + 1) ((w.nd k).last + 1)) := by
  have hx := h.base.nod k hk.1
  have hv : valid 2 (k + 1) ((w.nd k).last + 1) = true := by
    have := hx.last0
    have := hx.last
    unfold Eng.valid
    simp
    omega
  have ht' : t ≤ 1000000 := by omega
  obtain ⟨_, _, a0, a1, a2, a3, ea⟩ := ask_plain ht' hx
  have hlen := hx.len
  have n0 := hx.now0
  have n1 := hx.now
  have n2 := hx.en
  have l0 := hx.last0
  have hz : NInv T (t + 1) (w.nd k).ask k := hx.asked ht'
  have hl2 : (w.nd k).ask.len = (w.nd k).len + 1 := by rw [ea]
  refine ⟨a0, a1, a2, a3, by omega, by omega, ?_⟩
  · have htt : t + 1 ≤ 1000000 := by omega
    obtain ⟨e1, e2⟩ := hear_plain (by omega) htt hz hv rfl rfl
    refine ⟨e1, ?_⟩
    rcases e2 with ⟨_, e⟩ | ⟨j, j1, j2, e⟩
    · exfalso
      refine e (w.nd k).len (by rw [hl2]; omega) ?_
      rw [ea]
      simp
    · rw [e]
      have hj : j = (w.nd k).len := by
        rcases Nat.lt_trichotomy j (w.nd k).len with q | q | q
        · exfalso
          rw [ea] at j2
          simp only [Nat.zero_add, q, if_true] at j2
          have := (hx.ask j q).2.1
          omega
        · exact q
        · rw [hl2] at j1; omega
      have hav : (w.nd k).ask.av ((w.nd k).ask.off + j) = (w.nd k).now := by
        rw [ea, hj]
        simp
      refine ⟨⟨n0, by omega⟩, ?_, ?_, ?_, by omega, ?_, hT, by omega⟩
      · show (w.nd k).ask.now = _
        rw [ea]
        simp
      · show max (w.nd k).ask.en ((w.nd k).ask.av ((w.nd k).ask.off + j) + T) = _
        rw [hav, show (w.nd k).ask.en = (w.nd k).en by rw [ea]]
        omega
      · show (w.nd k).ask.last = _
        rw [ea]
      · show (w.nd k).ask.number = _
        rw [ea]
        exact hx.number
end Go.Proofs.Ytmnpnnegnlhemaa.Eng
namespace Go.Proofs.Ytmnpnnegnlhemaa.Eng
open Go

def t8_1 (v : Value) (nd : Int) (i : Nat) : List SV := [.junk, .raw v, .raw (.int .u8 nd), .ptr 10 0, .junk, .junk, .junk, .ptr 9 0, .raw (.bool true), ri (i : Int)] ++ junks 163
def h8_1 (w : Wd) (a b c : Int) : List AB := hW1 w ++ [.cells [.ptr 0 0, .lst 3 1 0 1, .lst 4 3 0 w.sl, .lst 5 1 0 1, .lst 6 1 0 1, ri w.slow] 75, .cells [.raw (.int .u8 a), .raw (.int .u8 b), .raw (.int .u8 c)] 69]
def t8b_10 (nd T : Int) (i : Nat) : List SV := [.junk, .junk, .raw (.int .u8 nd), .junk, .junk, .junk, .junk, .ptr 9 0, .junk, .junk, .junk, .junk, .ptr 7 0, ri T, .junk, .junk, .junk, .junk, .junk, ri (i : Int)] ++ junks 153
def h8b_10 (w : Wd) (c2 : Cen) (y : Nod) : List AB := hW1 { w with c := c2, x0 := y } ++ [.cells [.ptr 0 0, .lst 3 1 0 1, .lst 4 3 0 w.sl, .lst 5 1 0 1, .lst 6 1 0 1, ri w.slow] 75]
set_option maxHeartbeats 8000000 in
set_option maxRecDepth 100000 in
theorem ok8_1 (E : Addr → Option Value) (a b c nd : Int) (aa : Option Addr) (n cap : Nat) (e0 e1 : Nat → Int) (hE : Evts E aa n e0 e1) (ha : (IntKind.i64.wrap a).tmod 3 = 0) (hb : 0 ≤ b ∧ b < 256) (hc : 0 ≤ c ∧ c < 256) (hnd : 0 ≤ nd ∧ nd < 256) :
    Ok Try.prog E 8 [.agg [.raw (.int .u8 a), .raw (.int .u8 b), .raw (.int .u8 c)], .raw (.slice aa n cap), .raw (.int .u8 nd)] [] (rb true) [] := by
  refine ok_of_eng (pl := pl8) mixed (ΓV1_sound E) Try.func8 rfl rfl (by kernel_rfl) (by simp) 300 (fun F hF => ?_)
  cases hn : decide ((400 : Int) < n) with
  | true =>
    simp only [Try.f8, pl8, ΓV1, c16, hn, eng, litSt, srunA_nil, srunA_b, stepR, contB_mk, r0, regC, sop, unw, strip, sev, tg, tset, tput, undefs, needs, opNeeds, sBin, ibin, shiftOp, selC, sLen, sBox, sCall, sBuiltin, vcells, one, holeAt, idxAt, pushAt, List.length_cons, List.length_nil, List.cons_append, List.nil_append, List.map_cons, List.map_nil, List.all_cons, List.all_nil, true_and, and_self, or_true, eq_self, Bool.false_eq_true, Bool.and_self, Nat.zero_add, Value.oneCell', Nat.reduceAdd, Nat.reduceSub, te70]
    exact hF _ _ _ ⟨trivial, by simp only [Try.f8, rb, retP, sResults, sRes1, resK, retV, vwk, vwk1, hwk, sc, tg, List.length_nil, and_self, eq_self, Nat.le_refl]⟩
  | false =>
    have hn' : n ≤ 400 := by simp at hn; omega
    have hT := lT_le hb
    have hS := lS0_le hc
    have hT' : 1 ≤ lT b ∧ lT b ≤ 12 := ⟨hT.1, hT.2.1⟩
    have hT0 : IntKind.i64.wrap (1 + (IntKind.i64.wrap b).tmod 12) = lT b := rfl
    have hl : layOk1 a b c = True := eq_true ⟨ha, cenOk_of (by decide) hT' hS, nodeOk_of (by decide) hT'⟩
    simp only [Try.f8, pl8, ΓV1, c40_1, hl, eW0_1, w0_1, newC, newN, hn, ren, rens, encC, hW1, bN, lN, lg, ri, rb, renB, rens, ren, renEnts, sig, updH, eng, litSt, srunA_nil, srunA_b, stepR, contB_mk, r0, regC, sop, unw, strip, sev, tg, tset, tput, undefs, needs, opNeeds, sBin, ibin, shiftOp, selC, sLoad, sStore, sExtract, sLen, sNew, sAlloc, sBox, sCall, sBuiltin, cellsAt, hget, hset, vcells, one, splice, holeAt, idxAt, pushAt, lg, List.length_cons, List.length_nil, List.cons_append, List.nil_append, List.append_nil, List.map_cons, List.map_nil, List.take_succ_cons, List.take_zero, List.take_nil, List.drop_succ_cons, List.drop_zero, List.drop_nil, List.all_cons, List.all_nil, List.getElem?_cons_zero, List.getElem?_cons_succ, List.getElem?_nil, true_and, and_self, or_true, eq_self, Bool.false_eq_true, Bool.and_self, Nat.zero_add, Nat.add_zero, Nat.sub_zero, Nat.le_refl, Option.getD_none, Value.oneCell', Nat.reduceAdd, Nat.reduceSub, Int.reduceToNat, tk69, ts69, ta69, te70, tk75, ts75, tz75]
    refine ⟨Nat × Wd, fun x => t8_1 (.slice aa n cap) nd x.1, fun x => h8_1 x.2 a b c, fun x => x.1 ≤ n ∧ Run 1 (lT b) (lS0 c) x.1 x.2, fun x => n - x.1, (0, w0_1 (lT b) (lS0 c)), ⟨Nat.zero_le _, run0_1 hT' hS⟩, ⟨some [1, 2, 3, 4, 5, 6, 7, 8, 9, 10, 0], ?_⟩, ?_⟩
    · simp only [NwO, Nw, t8_1, h8_1, w0_1, newC, newN, hW1, encC, bN, lN, lg, junks, ri, rb, Int.natCast_zero, NwO, Nw, wk, renJ, renJs, mvH, hgetO, memB, posG, jp, renJB, renJEnts, vwks, vwk1, hwk, bwk, sc, scs, scEnts, lg, List.length_cons, List.length_nil, List.cons_append, List.nil_append, List.take_zero, true_and, and_true, and_self, implies_true, eq_self, Bool.and_self, decide_true, decide_false, Nat.zero_add, Nat.add_zero, Nat.le_refl, reduceCtorEq, Nat.reduceAdd, Nat.reduceLT, Nat.reduceLeDiff, Nat.reduceEqDiff, Int.reduceToNat] <;> (and_intros <;> first | rfl | (intro k hk; (rcases k with _ | _ | _ | k <;> first | rfl | omega)))
    · rintro ⟨i, w⟩ ⟨hi, hr⟩ F' hN hX
      cases hlt : decide ((i : Int) < n) with
      | false =>
        simp only [t8_1, h8_1, junks, pl8, hlt, ri, eng, litSt, srunA_nil, srunA_b, stepR, contB_mk, r0, r1, r2, regC, sop, unw, strip, sev, tg, tset, tput, needs, opNeeds, sBin, ibin, shiftOp, gb, gslot, gdst, onth, wants, sPick, selC, sLen, sBuiltin, List.cons_append, List.nil_append, List.map_cons, List.map_nil, true_and, and_self, or_true, implies_true, eq_self, Bool.true_eq_false, Bool.false_eq_true, Bool.cond_true, ↓reduceIte, te70]
        refine hX _ _ _ (by simp) ?_
        have hI : True := trivial
        have hF2 : True := trivial
        cases h0' : decide (w.c.node = 0) with
        | false =>
          simp only [popF, pl8, ΓV1, c16, h0', cK, onK, decC2, ivn, hd1, cellOf, lstN, lstF, encC, hW1, bN, lN, lg, Cen.eta, ri, rb, eng, litSt, srunA_nil, srunA_b, stepR, contB_mk, r0, regC, sop, unw, strip, sev, tg, tset, tput, needs, opNeeds, sBin, ibin, shiftOp, popF, selC, exitC, sLoad, sExtract, sField, sCall, sUn, cellsAt, hget, hd1, lg, List.length_cons, List.length_nil, List.cons_append, List.nil_append, List.map_cons, List.map_nil, List.take_succ_cons, List.take_zero, List.drop_succ_cons, List.drop_zero, List.getElem?_cons_zero, List.getElem?_cons_succ, true_and, and_self, or_true, not_false_eq_true, eq_self, ne_eq, Bool.false_eq_true, Bool.not_true, Bool.not_false, Nat.zero_add, Nat.add_zero, reduceCtorEq, Nat.reduceAdd, Nat.reduceLeDiff, Nat.reduceBEq, tk27, ta27, tf75_0]
          exact hF _ _ _ ⟨trivial, by simp only [Try.f8, rb, retP, sResults, sRes1, resK, retV, vwk, vwk1, hwk, sc, tg, List.length_nil, and_self, eq_self, Nat.le_refl]⟩
        | true =>
          have h0 : w.c.node = 0 := of_decide_eq_true h0'
          have hk3 : (IntKind.i64.wrap nd).tmod 1 = 0 := by
            rw [wrap_byte hnd.1 hnd.2]
            have := tmod_lt hnd.1 (show (0 : Int) < 1 by decide)
            omega
          have q := hk3
          · have hk0 : (((IntKind.i64.wrap nd).tmod 1 : Int)) = 0 := q
            have hA := arrC (by decide) (by omega) hr (show 0 < 1 by decide) h0
            obtain ⟨a0, a1, a2, a3, b0, b1, b2, hN0⟩ := arrN hT' (by omega) hr (show 0 < 1 ∧ 1 ≤ 3 by decide)
            obtain ⟨f1, f2, _⟩ := hA.reply
            have f3 := hA.held
            obtain ⟨f4, f5⟩ := hA.back
            simp only [Wd.nd, Int.natCast_zero, Int.reduceAdd] at a0 a1 a2 a3 b0 b1 b2 hN0 f1 f2 f3 f4 f5
            have wkk : IntKind.i64.wrap 1 = 1 := by decide
            clear hE hX hF2 hA hr hI
            generalize hm : w.x0.last + 1 = m at *
            generalize hc1 : w.c.want 1 = c1 at *
            simp only [popF, pl8, ΓV1, h0', hk0, hT0, hc1, wkk, a0, a1, a2, a3, b0, b1, b2, f1, f2, f3, cK, onK, cM, decC2, ivn, lix, lof, lln, el0, el1, hd1, cellOf, lstN, lstF, nodupB, ren, rens, encC, hW1, bN, lN, decN2, lg, Cen.eta, Nod.eta, cast1, cast3, onNat, sigN, decN, encN, encN2, Nod.room, ask_word, says_word, bsl, ri, rb, renB, rens, ren, sig, subH, updH, ↓engE, drawE_mk, eng, litSt, srunA_nil, srunA_b, stepR, contB_mk, r0, r1, r2, regC, sop, unw, strip, sev, tg, tset, tput, needs, opNeeds, sBin, ibin, shiftOp, gb, gslot, gdst, onth, wants, sPick, popF, selC, exitC, sLoad, sStore, sExtract, sField, sIndex, sLen, sNew, sAlloc, sCall, sBuiltin, sUn, sConv, cellsAt, hget, hset, hd1, vcells, one, splice, holeAt, idxAt, pushAt, drawSt, preL, chkL, stp, nxtB_mk, pref_0, pref_b, allocOp, holes, lg, List.length_cons, List.length_nil, List.cons_append, List.nil_append, List.append_nil, List.map_cons, List.map_nil, List.take_succ_cons, List.take_zero, List.take_nil, List.drop_succ_cons, List.drop_zero, List.drop_nil, List.all_cons, List.all_nil, List.contains_cons, List.contains_nil, List.getElem?_cons_zero, List.getElem?_cons_succ, List.getElem?_nil, true_and, and_self, or_true, implies_true, not_false_eq_true, eq_self, ne_eq, Bool.false_eq_true, Bool.not_true, Bool.not_false, Bool.or_false, Bool.and_self, Bool.cond_false, decide_true, Nat.zero_add, Nat.add_zero, Nat.mul_one, Nat.le_refl, Int.toNat_zero, Option.getD_some, Option.getD_none, reduceCtorEq, Value.oneCell', ↓reduceIte, Nat.reduceAdd, Nat.reduceSub, Nat.reduceLT, Nat.reduceLeDiff, Nat.reduceBEq, Int.reduceLT, Int.reduceLE, Int.reduceEq, Int.reduceToNat, Int.reduceAdd, ti3, tk5, ts5, ta5, ti5, tk27, ta27, tk30, ts30, ta30, tk41, ts41, ta41, tz41, tr69, tk71, ta71, te71, tf75_0, tf75_1]
            refine ⟨Nat × Nod, fun x => t8b_10 nd (lT b) x.1, fun x => h8b_10 w (c1.hear 1 1 m) x.2, fun x => ArrN (lT b) m w.x0.now 0 x.1 x.2, fun x => (lT b).toNat - x.1, (0, w.x0.ask.hear 2 1 m), hN0, ⟨some [0, 1, 2, 3, 4, 5, 6, 7, 11, 9], ?_⟩, ?_⟩
            · simp only [NwO, Nw, t8b_10, h8b_10, hW1, encC, bN, lN, lg, junks, ri, rb, Int.natCast_zero, NwO, Nw, wk, renJ, renJs, mvH, hgetO, memB, posG, jp, renJB, renJEnts, vwks, vwk1, hwk, bwk, sc, scs, scEnts, lg, List.length_cons, List.length_nil, List.cons_append, List.nil_append, List.take_zero, true_and, and_true, and_self, implies_true, eq_self, Bool.and_self, decide_true, decide_false, Nat.zero_add, Nat.le_refl, reduceCtorEq, Nat.reduceAdd, Nat.reduceLT, Nat.reduceLeDiff, Nat.reduceEqDiff] <;> (and_intros <;> first | rfl | (intro k hk; (rcases k with _ | _ | _ | k <;> first | rfl | omega)))
            · rintro ⟨i2, y⟩ hy F3 hN3 hX3
              have hyh := hy.holds
              have hy1 := hy.hi
              have hy2 := hy.hT
              obtain ⟨q0, q1, q2, q3, q4⟩ := hy.ret
              simp only [Int.natCast_zero, Int.reduceAdd] at q1
              cases hlt2 : decide ((i2 : Int) < lT b) with
              | false =>
                rw [hlt2] at hyh
                simp only [t8b_10, h8b_10, junks, pl8, hlt2, encC, hW1, bN, lN, lg, ri, rb, eng, litSt, srunA_nil, srunA_b, stepR, contB_mk, r0, regC, sop, unw, strip, sev, tg, tset, tput, needs, opNeeds, sBin, ibin, shiftOp, selC, lg, List.cons_append, List.nil_append, true_and, and_self, or_true, eq_self, Bool.false_eq_true]
                refine hX3 _ _ _ (by simp) ?_
                simp only [popF, pl8, ΓV1, c16, hyh, cK, cM, ivn, lix, lof, lln, el0, el1, cellOf, lstF, nodupB, ren, rens, decN2, Nod.eta, onNat, allN, sigN, decN, encN, ri, rb, renB, rens, ren, sig, subH, updH, eng, litSt, srunA_nil, srunA_b, stepR, contB_mk, r0, r1, r2, regC, sop, unw, strip, sev, tg, tset, tput, needs, opNeeds, gb, gslot, gdst, onth, wants, sPick, popF, exitC, sCall, sUn, hget, hset, List.length_cons, List.length_nil, List.append_nil, List.map_cons, List.map_nil, List.contains_cons, List.contains_nil, List.getElem?_cons_zero, List.getElem?_cons_succ, true_and, and_self, implies_true, eq_self, Bool.true_eq_false, Bool.not_false, Bool.or_false, Bool.and_self, Bool.cond_true, Nat.zero_add, Nat.add_zero, Option.getD_some, ↓reduceIte, Nat.reduceAdd, Nat.reduceSub, Nat.reduceLT, Nat.reduceBEq]
                exact hF _ _ _ ⟨trivial, by simp only [Try.f8, rb, retP, sResults, sRes1, resK, retV, vwk, vwk1, hwk, sc, tg, List.length_nil, and_self, eq_self, Nat.le_refl]⟩
              | true =>
                rw [hlt2] at hyh
                have hi2 : (i2 : Int) < lT b := of_decide_eq_true hlt2
                have hw2 : IntKind.i64.wrap ((i2 : Int) + 1) = i2 + 1 := wrap1 (by omega) (by omega)
                cases hh : decide ((i2 : Int) = IntKind.i64.wrap ((lT b).tdiv 2)) && decide (128 ≤ IntKind.i64.wrap nd) with
                | true =>
                  rw [Bool.and_eq_true] at hh
                  simp only [t8b_10, h8b_10, junks, pl8, ΓV1, c16, hlt2, hyh, hh.1, hh.2, q0, q1, q2, q3, q4, f4, f5, cK, onK, cM, decC2, ivn, lix, lof, lln, el0, el1, hd1, cellOf, lstN, lstF, nodupB, ren, rens, encC, hW1, bN, lN, decN2, lg, Cen.eta, Nod.eta, onNat, allN, sigN, decN, encN, ret_word, says_word, bsl, ri, rb, renB, rens, ren, sig, subH, updH, eng, litSt, srunA_nil, srunA_b, stepR, contB_mk, r0, r1, r2, regC, sop, unw, strip, sev, tg, tset, tput, needs, opNeeds, sBin, ibin, shiftOp, gb, gslot, gdst, onth, wants, sPick, selC, sLoad, sStore, sExtract, sField, sNew, sAlloc, sCall, sUn, sConv, cellsAt, hget, hset, hd1, vcells, one, splice, holeAt, idxAt, pushAt, lg, List.length_cons, List.length_nil, List.cons_append, List.nil_append, List.append_nil, List.map_cons, List.map_nil, List.take_succ_cons, List.take_zero, List.take_nil, List.drop_succ_cons, List.drop_zero, List.drop_nil, List.all_cons, List.all_nil, List.contains_cons, List.contains_nil, List.getElem?_cons_zero, List.getElem?_cons_succ, true_and, and_self, or_true, implies_true, not_false_eq_true, eq_self, ne_eq, Bool.true_eq_false, Bool.false_eq_true, Bool.not_true, Bool.not_false, Bool.or_false, Bool.and_self, Bool.cond_true, decide_true, Nat.zero_add, Nat.add_zero, Nat.le_refl, Option.getD_some, reduceCtorEq, Value.oneCell', ↓reduceIte, Nat.reduceAdd, Nat.reduceSub, Nat.reduceLT, Nat.reduceLeDiff, Nat.reduceBEq, Int.reduceEq, ti3, ti5, tk27, ta27, tk41, ts41, ta41, tz41, tf75_0]
                  refine hX3 _ _ _ (by simp) ?_
                  simp only [popF, eng, popF]
                  exact hF _ _ _ ⟨trivial, by simp only [Try.f8, rb, retP, sResults, sRes1, resK, retV, vwk, vwk1, hwk, sc, tg, List.length_nil, and_self, eq_self, Nat.le_refl]⟩
                | false =>
                  cases hh1 : decide ((i2 : Int) = IntKind.i64.wrap ((lT b).tdiv 2)) with
                  | true =>
                    cases hh2 : decide (128 ≤ IntKind.i64.wrap nd) with
                    | true => rw [hh1, hh2] at hh; cases hh
                    | false =>
                      simp only [t8b_10, h8b_10, junks, pl8, ΓV1, hlt2, hyh, hh1, hh2, hw2, cK, cM, ivn, lix, lof, lln, el0, el1, cellOf, lstF, nodupB, ren, rens, encC, hW1, bN, lN, decN2, lg, Nod.eta, onNat, allN, sigN, decN, encN, ri, rb, renB, rens, ren, sig, subH, updH, eng, litSt, srunA_nil, srunA_b, stepR, contB_mk, r0, r1, r2, regC, sop, unw, strip, sev, tg, tset, tput, needs, opNeeds, sBin, ibin, shiftOp, gb, gslot, gdst, onth, wants, sPick, selC, sCall, sUn, sConv, hget, hset, lg, List.length_cons, List.length_nil, List.cons_append, List.nil_append, List.append_nil, List.map_cons, List.map_nil, List.contains_cons, List.contains_nil, List.getElem?_cons_zero, List.getElem?_cons_succ, true_and, and_self, or_true, implies_true, not_false_eq_true, eq_self, ne_eq, Bool.true_eq_false, Bool.false_eq_true, Bool.not_true, Bool.not_false, Bool.or_false, Bool.and_self, Bool.cond_true, Nat.zero_add, Nat.add_zero, Option.getD_some, ↓reduceIte, Nat.reduceAdd, Nat.reduceSub, Nat.reduceLT, Nat.reduceBEq, Int.reduceEq, ti3, ti5]
                      refine hN3 none (i2 + 1, y.tk) _ _ (hy.tick hi2) (by simp only; omega) ?_
                      simp only [NwO, Nw, t8b_10, h8b_10, hW1, encC, bN, lN, lg, junks, ri, rb, Int.natCast_add, Int.natCast_one, NwO, Nw, wk, vwks, vwk1, hwk, bwk, sc, scs, scEnts, lg, List.length_cons, List.length_nil, List.cons_append, List.nil_append, true_and, and_true, and_self, implies_true, eq_self, Bool.and_self, decide_true, Nat.zero_add, Nat.le_refl, Nat.reduceAdd, Nat.reduceLT, Nat.reduceLeDiff] <;> (and_intros <;> first | rfl | (intro k hk; (rcases k with _ | _ | _ | k <;> first | rfl | omega)))
                  | false =>
                    simp only [t8b_10, h8b_10, junks, pl8, ΓV1, hlt2, hyh, hh1, hw2, cK, cM, ivn, lix, lof, lln, el0, el1, cellOf, lstF, nodupB, ren, rens, encC, hW1, bN, lN, decN2, lg, Nod.eta, onNat, allN, sigN, decN, encN, ri, rb, renB, rens, ren, sig, subH, updH, eng, litSt, srunA_nil, srunA_b, stepR, contB_mk, r0, r1, r2, regC, sop, unw, strip, sev, tg, tset, tput, needs, opNeeds, sBin, ibin, shiftOp, gb, gslot, gdst, onth, wants, sPick, selC, sCall, sUn, sConv, hget, hset, lg, List.length_cons, List.length_nil, List.cons_append, List.nil_append, List.append_nil, List.map_cons, List.map_nil, List.contains_cons, List.contains_nil, List.getElem?_cons_zero, List.getElem?_cons_succ, true_and, and_self, or_true, implies_true, imp_self, not_false_eq_true, eq_self, ne_eq, Bool.false_eq_true, Bool.not_true, Bool.not_false, Bool.or_false, Bool.and_self, Bool.cond_false, Nat.zero_add, Nat.add_zero, Option.getD_some, ↓reduceIte, Nat.reduceAdd, Nat.reduceSub, Nat.reduceLT, Nat.reduceBEq, Int.reduceEq, ti3, ti5]
                    refine hN3 none (i2 + 1, y.tk) _ _ (hy.tick hi2) (by simp only; omega) ?_
                    simp only [NwO, Nw, t8b_10, h8b_10, hW1, encC, bN, lN, lg, junks, ri, rb, Int.natCast_add, Int.natCast_one, NwO, Nw, wk, vwks, vwk1, hwk, bwk, sc, scs, scEnts, lg, List.length_cons, List.length_nil, List.cons_append, List.nil_append, true_and, and_true, and_self, implies_true, eq_self, Bool.and_self, decide_true, Nat.zero_add, Nat.le_refl, Nat.reduceAdd, Nat.reduceLT, Nat.reduceLeDiff] <;> (and_intros <;> first | rfl | (intro k hk; (rcases k with _ | _ | _ | k <;> first | rfl | omega)))
      | true =>
        have hil : i < n := by simp at hlt; omega
        obtain ⟨bb, o, rfl, hcell⟩ := hE.1 (by omega)
        obtain ⟨c0, c1⟩ := hcell i hil
        have hby := hE.2 i hil
        have hlt' : ((i : Int) < n) = True := by simp; omega
        have hw : IntKind.i64.wrap ((i : Int) + 1) = i + 1 := wrap1 (by omega) (by omega)
        have r := hr.step (by decide) hT' hS (by omega) (what := e0 i) hby.1
        have hfit : Fit 1 w = True := eq_true (hr.fit (by decide) hT' hS (by omega))
        have hb0 : (0 ≤ e1 i) = True := eq_true hby.1
        have hb1 : (e1 i < 256) = True := eq_true hby.2
        have hdn := hr.rest
        simp only [t8_1, h8_1, junks, pl8, ΓV1, onHap1, preHap1, decV1, hU0_1, tU1, lS, eWs, decC2, ivn, lof, lln, el0, el1, el2, hd1, cellOf, lstN, lstF, encC, eW, hW1, bN, lN, decN2, lg, Cen.eta, Nod.eta, etaL1 w (hdn 1 (by decide) (by decide)) (hdn 2 (by decide) (by decide)), hlt', c0, c1, hw, hfit, hb0, hb1, ri, rb, ↓engE, drawE_mk, eng, litSt, srunA_nil, srunA_b, stepR, contB_mk, r0, r1, r2, regC, sop, unw, strip, sev, tg, tset, tput, needs, opNeeds, sBin, ibin, shiftOp, gb, gslot, gdst, onth, wants, sPick, selC, sLoad, sStore, sExtract, sIndex, sLen, sCall, sBuiltin, cellsAt, roCells, hget, hset, hd1, vcells, one, splice, drawSt, preL, chkL, stp, nxtB_mk, pref_0, pref_b, allocOp, holes, lg, List.length_cons, List.length_nil, List.cons_append, List.nil_append, List.append_nil, List.map_cons, List.map_nil, List.take_succ_cons, List.take_zero, List.take_nil, List.drop_succ_cons, List.drop_zero, List.drop_nil, List.all_cons, List.all_nil, List.getElem?_cons_zero, List.getElem?_cons_succ, true_and, and_self, or_true, implies_true, eq_self, Bool.true_eq_false, Bool.false_eq_true, Bool.and_self, Bool.cond_true, decide_true, Nat.zero_add, Nat.le_refl, Int.toNat_natCast, Int.natCast_nonneg, Option.getD_some, Option.isSome_some, Value.oneCell', ↓reduceIte, Nat.reduceAdd, te70, tk75, ts75, ta75, tk80, ts80, ta80]
        refine hN (some [0, 1, 2, 3, 11, 5, 6, 7, 12, 9, 10]) (i + 1, w.step 1 (e0 i) (e1 i)) _ _ ⟨by simp only; omega, r⟩ (by simp only; omega) ?_
        simp only [NwO, Nw, t8_1, h8_1, hW1, encC, bN, lN, lg, junks, ri, rb, Int.natCast_add, Int.natCast_one, NwO, Nw, wk, renJ, renJs, mvH, hgetO, memB, posG, jp, renJB, renJEnts, vwks, vwk1, hwk, bwk, sc, scs, scEnts, lg, List.length_cons, List.length_nil, List.cons_append, List.nil_append, List.take_zero, true_and, and_true, and_self, implies_true, eq_self, Bool.and_self, decide_true, decide_false, Nat.zero_add, Nat.le_refl, reduceCtorEq, Nat.reduceAdd, Nat.reduceLT, Nat.reduceLeDiff, Nat.reduceEqDiff] <;> (and_intros <;> first | rfl | (intro k hk; (rcases k with _ | _ | _ | k <;> first | rfl | omega)))
end Go.Proofs.Ytmnpnnegnlhemaa.Eng
namespace Go.Proofs.Ytmnpnnegnlhemaa.Eng
open Go

def t8_2 (v : Value) (nd : Int) (i : Nat) : List SV := [.junk, .raw v, .raw (.int .u8 nd), .ptr 12 0, .junk, .junk, .junk, .ptr 11 0, .raw (.bool true), ri (i : Int)] ++ junks 163
def h8_2 (w : Wd) (a b c : Int) : List AB := hW2 w ++ [.cells [.ptr 0 0, .lst 3 1 0 2, .lst 4 3 0 w.sl, .lst 5 1 0 2, .lst 6 1 0 2, ri w.slow] 75, .cells [.raw (.int .u8 a), .raw (.int .u8 b), .raw (.int .u8 c)] 69]
def t8b_20 (nd T : Int) (i : Nat) : List SV := [.junk, .junk, .raw (.int .u8 nd), .junk, .junk, .junk, .junk, .ptr 11 0, .junk, .junk, .junk, .junk, .ptr 7 0, ri T, .junk, .junk, .junk, .junk, .junk, ri (i : Int)] ++ junks 153
def h8b_20 (w : Wd) (c2 : Cen) (y : Nod) : List AB := hW2 { w with c := c2, x0 := y } ++ [.cells [.ptr 0 0, .lst 3 1 0 2, .lst 4 3 0 w.sl, .lst 5 1 0 2, .lst 6 1 0 2, ri w.slow] 75]
def t8b_21 (nd T : Int) (i : Nat) : List SV := [.junk, .junk, .raw (.int .u8 nd), .junk, .junk, .junk, .junk, .ptr 11 0, .junk, .junk, .junk, .junk, .ptr 9 0, ri T, .junk, .junk, .junk, .junk, .junk, ri (i : Int)] ++ junks 153
def h8b_21 (w : Wd) (c2 : Cen) (y : Nod) : List AB := hW2 { w with c := c2, x1 := y } ++ [.cells [.ptr 0 0, .lst 3 1 0 2, .lst 4 3 0 w.sl, .lst 5 1 0 2, .lst 6 1 0 2, ri w.slow] 75]
set_option maxHeartbeats 8000000 in
set_option maxRecDepth 100000 in
theorem ok8_2 (E : Addr → Option Value) (a b c nd : Int) (aa : Option Addr) (n cap : Nat) (e0 e1 : Nat → Int) (hE : Evts E aa n e0 e1) (ha : (IntKind.i64.wrap a).tmod 3 = 1) (hb : 0 ≤ b ∧ b < 256) (hc : 0 ≤ c ∧ c < 256) (hnd : 0 ≤ nd ∧ nd < 256) :
    Ok Try.prog E 8 [.agg [.raw (.int .u8 a), .raw (.int .u8 b), .raw (.int .u8 c)], .raw (.slice aa n cap), .raw (.int .u8 nd)] [] (rb true) [] := by
  refine ok_of_eng (pl := pl8) mixed (ΓV2_sound E) Try.func8 rfl rfl (by kernel_rfl) (by simp) 300 (fun F hF => ?_)
  cases hn : decide ((400 : Int) < n) with
  | true =>
    simp only [Try.f8, pl8, ΓV2, c16, hn, eng, litSt, srunA_nil, srunA_b, stepR, contB_mk, r0, regC, sop, unw, strip, sev, tg, tset, tput, undefs, needs, opNeeds, sBin, ibin, shiftOp, selC, sLen, sBox, sCall, sBuiltin, vcells, one, holeAt, idxAt, pushAt, List.length_cons, List.length_nil, List.cons_append, List.nil_append, List.map_cons, List.map_nil, List.all_cons, List.all_nil, true_and, and_self, or_true, eq_self, Bool.false_eq_true, Bool.and_self, Nat.zero_add, Value.oneCell', Nat.reduceAdd, Nat.reduceSub, te70]
    exact hF _ _ _ ⟨trivial, by simp only [Try.f8, rb, retP, sResults, sRes1, resK, retV, vwk, vwk1, hwk, sc, tg, List.length_nil, and_self, eq_self, Nat.le_refl]⟩
  | false =>
    have hn' : n ≤ 400 := by simp at hn; omega
    have hT := lT_le hb
    have hS := lS0_le hc
    have hT' : 1 ≤ lT b ∧ lT b ≤ 12 := ⟨hT.1, hT.2.1⟩
    have hT0 : IntKind.i64.wrap (1 + (IntKind.i64.wrap b).tmod 12) = lT b := rfl
    have hl : layOk2 a b c = True := eq_true ⟨ha, cenOk_of (by decide) hT' hS, nodeOk_of (by decide) hT', nodeOk_of (by decide) hT'⟩
    simp only [Try.f8, pl8, ΓV2, c40_2, hl, eW0_2, w0_2, newC, newN, hn, ren, rens, encC, hW2, bN, lN, lg, ri, rb, renB, rens, ren, renEnts, sig, updH, eng, litSt, srunA_nil, srunA_b, stepR, contB_mk, r0, regC, sop, unw, strip, sev, tg, tset, tput, undefs, needs, opNeeds, sBin, ibin, shiftOp, selC, sLoad, sStore, sExtract, sLen, sNew, sAlloc, sBox, sCall, sBuiltin, cellsAt, hget, hset, vcells, one, splice, holeAt, idxAt, pushAt, lg, List.length_cons, List.length_nil, List.cons_append, List.nil_append, List.append_nil, List.map_cons, List.map_nil, List.take_succ_cons, List.take_zero, List.take_nil, List.drop_succ_cons, List.drop_zero, List.drop_nil, List.all_cons, List.all_nil, List.getElem?_cons_zero, List.getElem?_cons_succ, List.getElem?_nil, true_and, and_self, or_true, eq_self, Bool.false_eq_true, Bool.and_self, Nat.zero_add, Nat.add_zero, Nat.sub_zero, Nat.le_refl, Option.getD_none, Value.oneCell', Nat.reduceAdd, Nat.reduceSub, Int.reduceToNat, tk69, ts69, ta69, te70, tk75, ts75, tz75]
    refine ⟨Nat × Wd, fun x => t8_2 (.slice aa n cap) nd x.1, fun x => h8_2 x.2 a b c, fun x => x.1 ≤ n ∧ Run 2 (lT b) (lS0 c) x.1 x.2, fun x => n - x.1, (0, w0_2 (lT b) (lS0 c)), ⟨Nat.zero_le _, run0_2 hT' hS⟩, ⟨some [1, 2, 3, 4, 5, 6, 7, 8, 9, 10, 11, 12, 0], ?_⟩, ?_⟩
    · simp only [NwO, Nw, t8_2, h8_2, w0_2, newC, newN, hW2, encC, bN, lN, lg, junks, ri, rb, Int.natCast_zero, NwO, Nw, wk, renJ, renJs, mvH, hgetO, memB, posG, jp, renJB, renJEnts, vwks, vwk1, hwk, bwk, sc, scs, scEnts, lg, List.length_cons, List.length_nil, List.cons_append, List.nil_append, List.take_zero, true_and, and_true, and_self, implies_true, eq_self, Bool.and_self, decide_true, decide_false, Nat.zero_add, Nat.add_zero, Nat.le_refl, reduceCtorEq, Nat.reduceAdd, Nat.reduceLT, Nat.reduceLeDiff, Nat.reduceEqDiff, Int.reduceToNat] <;> (and_intros <;> first | rfl | (intro k hk; (rcases k with _ | _ | _ | k <;> first | rfl | omega)))
    · rintro ⟨i, w⟩ ⟨hi, hr⟩ F' hN hX
      cases hlt : decide ((i : Int) < n) with
      | false =>
        simp only [t8_2, h8_2, junks, pl8, hlt, ri, eng, litSt, srunA_nil, srunA_b, stepR, contB_mk, r0, r1, r2, regC, sop, unw, strip, sev, tg, tset, tput, needs, opNeeds, sBin, ibin, shiftOp, gb, gslot, gdst, onth, wants, sPick, selC, sLen, sBuiltin, List.cons_append, List.nil_append, List.map_cons, List.map_nil, true_and, and_self, or_true, implies_true, eq_self, Bool.true_eq_false, Bool.false_eq_true, Bool.cond_true, ↓reduceIte, te70]
        refine hX _ _ _ (by simp) ?_
        have hI : True := trivial
        have hF2 : True := trivial
        cases h0' : decide (w.c.node = 0) with
        | false =>
          simp only [popF, pl8, ΓV2, c16, h0', cK, onK, decC2, ivn, hd1, cellOf, lstN, lstF, encC, hW2, bN, lN, lg, Cen.eta, ri, rb, eng, litSt, srunA_nil, srunA_b, stepR, contB_mk, r0, regC, sop, unw, strip, sev, tg, tset, tput, needs, opNeeds, sBin, ibin, shiftOp, popF, selC, exitC, sLoad, sExtract, sField, sCall, sUn, cellsAt, hget, hd1, lg, List.length_cons, List.length_nil, List.cons_append, List.nil_append, List.map_cons, List.map_nil, List.take_succ_cons, List.take_zero, List.drop_succ_cons, List.drop_zero, List.getElem?_cons_zero, List.getElem?_cons_succ, true_and, and_self, or_true, not_false_eq_true, eq_self, ne_eq, Bool.false_eq_true, Bool.not_true, Bool.not_false, Nat.zero_add, Nat.add_zero, reduceCtorEq, Nat.reduceAdd, Nat.reduceLeDiff, Nat.reduceBEq, tk27, ta27, tf75_0]
          exact hF _ _ _ ⟨trivial, by simp only [Try.f8, rb, retP, sResults, sRes1, resK, retV, vwk, vwk1, hwk, sc, tg, List.length_nil, and_self, eq_self, Nat.le_refl]⟩
        | true =>
          have h0 : w.c.node = 0 := of_decide_eq_true h0'
          have hk3 : (IntKind.i64.wrap nd).tmod 2 = 0 ∨ (IntKind.i64.wrap nd).tmod 2 = 1 := by
            rw [wrap_byte hnd.1 hnd.2]
            have := tmod_lt hnd.1 (show (0 : Int) < 2 by decide)
            omega
          rcases hk3 with q | q
          · have hk0 : (((IntKind.i64.wrap nd).tmod 2 : Int)) = 0 := q
            have hA := arrC (by decide) (by omega) hr (show 0 < 2 by decide) h0
            obtain ⟨a0, a1, a2, a3, b0, b1, b2, hN0⟩ := arrN hT' (by omega) hr (show 0 < 2 ∧ 2 ≤ 3 by decide)
            obtain ⟨f1, f2, _⟩ := hA.reply
            have f3 := hA.held
            obtain ⟨f4, f5⟩ := hA.back
            simp only [Wd.nd, Int.natCast_zero, Int.reduceAdd] at a0 a1 a2 a3 b0 b1 b2 hN0 f1 f2 f3 f4 f5
            have wkk : IntKind.i64.wrap 1 = 1 := by decide
            clear hE hX hF2 hA hr hI
            generalize hm : w.x0.last + 1 = m at *
            generalize hc1 : w.c.want 1 = c1 at *
            simp only [popF, pl8, ΓV2, h0', hk0, hT0, hc1, wkk, a0, a1, a2, a3, b0, b1, b2, f1, f2, f3, cK, onK, cM, decC2, ivn, lix, lof, lln, el0, el1, hd1, cellOf, lstN, lstF, nodupB, ren, rens, encC, hW2, bN, lN, decN2, lg, Cen.eta, Nod.eta, cast2, cast3, onNat, sigN, decN, encN, encN2, Nod.room, ask_word, says_word, bsl, ri, rb, renB, rens, ren, sig, subH, updH, ↓engE, drawE_mk, eng, litSt, srunA_nil, srunA_b, stepR, contB_mk, r0, r1, r2, regC, sop, unw, strip, sev, tg, tset, tput, needs, opNeeds, sBin, ibin, shiftOp, gb, gslot, gdst, onth, wants, sPick, popF, selC, exitC, sLoad, sStore, sExtract, sField, sIndex, sLen, sNew, sAlloc, sCall, sBuiltin, sUn, sConv, cellsAt, hget, hset, hd1, vcells, one, splice, holeAt, idxAt, pushAt, drawSt, preL, chkL, stp, nxtB_mk, pref_0, pref_b, allocOp, holes, lg, List.length_cons, List.length_nil, List.cons_append, List.nil_append, List.append_nil, List.map_cons, List.map_nil, List.take_succ_cons, List.take_zero, List.take_nil, List.drop_succ_cons, List.drop_zero, List.drop_nil, List.all_cons, List.all_nil, List.contains_cons, List.contains_nil, List.getElem?_cons_zero, List.getElem?_cons_succ, List.getElem?_nil, true_and, and_self, or_true, implies_true, not_false_eq_true, eq_self, ne_eq, Bool.false_eq_true, Bool.not_true, Bool.not_false, Bool.or_false, Bool.and_self, Bool.cond_false, decide_true, Nat.zero_add, Nat.add_zero, Nat.mul_one, Nat.le_refl, Int.toNat_zero, Option.getD_some, Option.getD_none, reduceCtorEq, Value.oneCell', ↓reduceIte, Nat.reduceAdd, Nat.reduceSub, Nat.reduceLT, Nat.reduceLeDiff, Nat.reduceBEq, Int.reduceLT, Int.reduceLE, Int.reduceEq, Int.reduceToNat, Int.reduceAdd, ti3, tk5, ts5, ta5, ti5, tk27, ta27, tk30, ts30, ta30, tk41, ts41, ta41, tz41, tr69, tk71, ta71, te71, tf75_0, tf75_1]
            refine ⟨Nat × Nod, fun x => t8b_20 nd (lT b) x.1, fun x => h8b_20 w (c1.hear 1 1 m) x.2, fun x => ArrN (lT b) m w.x0.now 0 x.1 x.2, fun x => (lT b).toNat - x.1, (0, w.x0.ask.hear 2 1 m), hN0, ⟨some [0, 1, 2, 3, 4, 5, 6, 7, 13, 9, 10, 11], ?_⟩, ?_⟩
            · simp only [NwO, Nw, t8b_20, h8b_20, hW2, encC, bN, lN, lg, junks, ri, rb, Int.natCast_zero, NwO, Nw, wk, renJ, renJs, mvH, hgetO, memB, posG, jp, renJB, renJEnts, vwks, vwk1, hwk, bwk, sc, scs, scEnts, lg, List.length_cons, List.length_nil, List.cons_append, List.nil_append, List.take_zero, true_and, and_true, and_self, implies_true, eq_self, Bool.and_self, decide_true, decide_false, Nat.zero_add, Nat.le_refl, reduceCtorEq, Nat.reduceAdd, Nat.reduceLT, Nat.reduceLeDiff, Nat.reduceEqDiff] <;> (and_intros <;> first | rfl | (intro k hk; (rcases k with _ | _ | _ | k <;> first | rfl | omega)))
            · rintro ⟨i2, y⟩ hy F3 hN3 hX3
              have hyh := hy.holds
              have hy1 := hy.hi
              have hy2 := hy.hT
              obtain ⟨q0, q1, q2, q3, q4⟩ := hy.ret
              simp only [Int.natCast_zero, Int.reduceAdd] at q1
              cases hlt2 : decide ((i2 : Int) < lT b) with
              | false =>
                rw [hlt2] at hyh
                simp only [t8b_20, h8b_20, junks, pl8, hlt2, encC, hW2, bN, lN, lg, ri, rb, eng, litSt, srunA_nil, srunA_b, stepR, contB_mk, r0, regC, sop, unw, strip, sev, tg, tset, tput, needs, opNeeds, sBin, ibin, shiftOp, selC, lg, List.cons_append, List.nil_append, true_and, and_self, or_true, eq_self, Bool.false_eq_true]
                refine hX3 _ _ _ (by simp) ?_
                simp only [popF, pl8, ΓV2, c16, hyh, cK, cM, ivn, lix, lof, lln, el0, el1, cellOf, lstF, nodupB, ren, rens, decN2, Nod.eta, onNat, allN, sigN, decN, encN, ri, rb, renB, rens, ren, sig, subH, updH, eng, litSt, srunA_nil, srunA_b, stepR, contB_mk, r0, r1, r2, regC, sop, unw, strip, sev, tg, tset, tput, needs, opNeeds, gb, gslot, gdst, onth, wants, sPick, popF, exitC, sCall, sUn, hget, hset, List.length_cons, List.length_nil, List.append_nil, List.map_cons, List.map_nil, List.contains_cons, List.contains_nil, List.getElem?_cons_zero, List.getElem?_cons_succ, true_and, and_self, implies_true, eq_self, Bool.true_eq_false, Bool.not_false, Bool.or_false, Bool.and_self, Bool.cond_true, Nat.zero_add, Nat.add_zero, Option.getD_some, ↓reduceIte, Nat.reduceAdd, Nat.reduceSub, Nat.reduceLT, Nat.reduceBEq]
                exact hF _ _ _ ⟨trivial, by simp only [Try.f8, rb, retP, sResults, sRes1, resK, retV, vwk, vwk1, hwk, sc, tg, List.length_nil, and_self, eq_self, Nat.le_refl]⟩
              | true =>
                rw [hlt2] at hyh
                have hi2 : (i2 : Int) < lT b := of_decide_eq_true hlt2
                have hw2 : IntKind.i64.wrap ((i2 : Int) + 1) = i2 + 1 := wrap1 (by omega) (by omega)
                cases hh : decide ((i2 : Int) = IntKind.i64.wrap ((lT b).tdiv 2)) && decide (128 ≤ IntKind.i64.wrap nd) with
                | true =>
                  rw [Bool.and_eq_true] at hh
                  simp only [t8b_20, h8b_20, junks, pl8, ΓV2, c16, hlt2, hyh, hh.1, hh.2, q0, q1, q2, q3, q4, f4, f5, cK, onK, cM, decC2, ivn, lix, lof, lln, el0, el1, hd1, cellOf, lstN, lstF, nodupB, ren, rens, encC, hW2, bN, lN, decN2, lg, Cen.eta, Nod.eta, onNat, allN, sigN, decN, encN, ret_word, says_word, bsl, ri, rb, renB, rens, ren, sig, subH, updH, eng, litSt, srunA_nil, srunA_b, stepR, contB_mk, r0, r1, r2, regC, sop, unw, strip, sev, tg, tset, tput, needs, opNeeds, sBin, ibin, shiftOp, gb, gslot, gdst, onth, wants, sPick, selC, sLoad, sStore, sExtract, sField, sNew, sAlloc, sCall, sUn, sConv, cellsAt, hget, hset, hd1, vcells, one, splice, holeAt, idxAt, pushAt, lg, List.length_cons, List.length_nil, List.cons_append, List.nil_append, List.append_nil, List.map_cons, List.map_nil, List.take_succ_cons, List.take_zero, List.take_nil, List.drop_succ_cons, List.drop_zero, List.drop_nil, List.all_cons, List.all_nil, List.contains_cons, List.contains_nil, List.getElem?_cons_zero, List.getElem?_cons_succ, true_and, and_self, or_true, implies_true, not_false_eq_true, eq_self, ne_eq, Bool.true_eq_false, Bool.false_eq_true, Bool.not_true, Bool.not_false, Bool.or_false, Bool.and_self, Bool.cond_true, decide_true, Nat.zero_add, Nat.add_zero, Nat.le_refl, Option.getD_some, reduceCtorEq, Value.oneCell', ↓reduceIte, Nat.reduceAdd, Nat.reduceSub, Nat.reduceLT, Nat.reduceLeDiff, Nat.reduceBEq, Int.reduceEq, ti3, ti5, tk27, ta27, tk41, ts41, ta41, tz41, tf75_0]
                  refine hX3 _ _ _ (by simp) ?_
                  simp only [popF, eng, popF]
                  exact hF _ _ _ ⟨trivial, by simp only [Try.f8, rb, retP, sResults, sRes1, resK, retV, vwk, vwk1, hwk, sc, tg, List.length_nil, and_self, eq_self, Nat.le_refl]⟩
                | false =>
                  cases hh1 : decide ((i2 : Int) = IntKind.i64.wrap ((lT b).tdiv 2)) with
                  | true =>
                    cases hh2 : decide (128 ≤ IntKind.i64.wrap nd) with
                    | true => rw [hh1, hh2] at hh; cases hh
                    | false =>
                      simp only [t8b_20, h8b_20, junks, pl8, ΓV2, hlt2, hyh, hh1, hh2, hw2, cK, cM, ivn, lix, lof, lln, el0, el1, cellOf, lstF, nodupB, ren, rens, encC, hW2, bN, lN, decN2, lg, Nod.eta, onNat, allN, sigN, decN, encN, ri, rb, renB, rens, ren, sig, subH, updH, eng, litSt, srunA_nil, srunA_b, stepR, contB_mk, r0, r1, r2, regC, sop, unw, strip, sev, tg, tset, tput, needs, opNeeds, sBin, ibin, shiftOp, gb, gslot, gdst, onth, wants, sPick, selC, sCall, sUn, sConv, hget, hset, lg, List.length_cons, List.length_nil, List.cons_append, List.nil_append, List.append_nil, List.map_cons, List.map_nil, List.contains_cons, List.contains_nil, List.getElem?_cons_zero, List.getElem?_cons_succ, true_and, and_self, or_true, implies_true, not_false_eq_true, eq_self, ne_eq, Bool.true_eq_false, Bool.false_eq_true, Bool.not_true, Bool.not_false, Bool.or_false, Bool.and_self, Bool.cond_true, Nat.zero_add, Nat.add_zero, Option.getD_some, ↓reduceIte, Nat.reduceAdd, Nat.reduceSub, Nat.reduceLT, Nat.reduceBEq, Int.reduceEq, ti3, ti5]
                      refine hN3 none (i2 + 1, y.tk) _ _ (hy.tick hi2) (by simp only; omega) ?_
                      simp only [NwO, Nw, t8b_20, h8b_20, hW2, encC, bN, lN, lg, junks, ri, rb, Int.natCast_add, Int.natCast_one, NwO, Nw, wk, vwks, vwk1, hwk, bwk, sc, scs, scEnts, lg, List.length_cons, List.length_nil, List.cons_append, List.nil_append, true_and, and_true, and_self, implies_true, eq_self, Bool.and_self, decide_true, Nat.zero_add, Nat.le_refl, Nat.reduceAdd, Nat.reduceLT, Nat.reduceLeDiff] <;> (and_intros <;> first | rfl | (intro k hk; (rcases k with _ | _ | _ | k <;> first | rfl | omega)))
                  | false =>
                    simp only [t8b_20, h8b_20, junks, pl8, ΓV2, hlt2, hyh, hh1, hw2, cK, cM, ivn, lix, lof, lln, el0, el1, cellOf, lstF, nodupB, ren, rens, encC, hW2, bN, lN, decN2, lg, Nod.eta, onNat, allN, sigN, decN, encN, ri, rb, renB, rens, ren, sig, subH, updH, eng, litSt, srunA_nil, srunA_b, stepR, contB_mk, r0, r1, r2, regC, sop, unw, strip, sev, tg, tset, tput, needs, opNeeds, sBin, ibin, shiftOp, gb, gslot, gdst, onth, wants, sPick, selC, sCall, sUn, sConv, hget, hset, lg, List.length_cons, List.length_nil, List.cons_append, List.nil_append, List.append_nil, List.map_cons, List.map_nil, List.contains_cons, List.contains_nil, List.getElem?_cons_zero, List.getElem?_cons_succ, true_and, and_self, or_true, implies_true, imp_self, not_false_eq_true, eq_self, ne_eq, Bool.false_eq_true, Bool.not_true, Bool.not_false, Bool.or_false, Bool.and_self, Bool.cond_false, Nat.zero_add, Nat.add_zero, Option.getD_some, ↓reduceIte, Nat.reduceAdd, Nat.reduceSub, Nat.reduceLT, Nat.reduceBEq, Int.reduceEq, ti3, ti5]
                    refine hN3 none (i2 + 1, y.tk) _ _ (hy.tick hi2) (by simp only; omega) ?_
                    simp only [NwO, Nw, t8b_20, h8b_20, hW2, encC, bN, lN, lg, junks, ri, rb, Int.natCast_add, Int.natCast_one, NwO, Nw, wk, vwks, vwk1, hwk, bwk, sc, scs, scEnts, lg, List.length_cons, List.length_nil, List.cons_append, List.nil_append, true_and, and_true, and_self, implies_true, eq_self, Bool.and_self, decide_true, Nat.zero_add, Nat.le_refl, Nat.reduceAdd, Nat.reduceLT, Nat.reduceLeDiff] <;> (and_intros <;> first | rfl | (intro k hk; (rcases k with _ | _ | _ | k <;> first | rfl | omega)))
          · have hk1 : (((IntKind.i64.wrap nd).tmod 2 : Int)) = 1 := q
            have hA := arrC (by decide) (by omega) hr (show 1 < 2 by decide) h0
            obtain ⟨a0, a1, a2, a3, b0, b1, b2, hN0⟩ := arrN hT' (by omega) hr (show 1 < 2 ∧ 2 ≤ 3 by decide)
            obtain ⟨f1, f2, _⟩ := hA.reply
            have f3 := hA.held
            obtain ⟨f4, f5⟩ := hA.back
            simp only [Wd.nd, cast1, Int.reduceAdd] at a0 a1 a2 a3 b0 b1 b2 hN0 f1 f2 f3 f4 f5
            have wkk : IntKind.i64.wrap 2 = 2 := by decide
            clear hE hX hF2 hA hr hI
            generalize hm : w.x1.last + 1 = m at *
            generalize hc1 : w.c.want 2 = c1 at *
            simp only [popF, pl8, ΓV2, h0', hk1, hT0, hc1, wkk, a0, a1, a2, a3, b0, b1, b2, f1, f2, f3, cK, onK, cM, decC2, ivn, lix, lof, lln, el0, el1, hd1, cellOf, lstN, lstF, nodupB, ren, rens, encC, hW2, bN, lN, decN2, lg, Cen.eta, Nod.eta, cast2, cast3, onNat, sigN, decN, encN, encN2, Nod.room, ask_word, says_word, bsl, ri, rb, renB, rens, ren, sig, subH, updH, ↓engE, drawE_mk, eng, litSt, srunA_nil, srunA_b, stepR, contB_mk, r0, r1, r2, regC, sop, unw, strip, sev, tg, tset, tput, needs, opNeeds, sBin, ibin, shiftOp, gb, gslot, gdst, onth, wants, sPick, popF, selC, exitC, sLoad, sStore, sExtract, sField, sIndex, sLen, sNew, sAlloc, sCall, sBuiltin, sUn, sConv, cellsAt, hget, hset, hd1, vcells, one, splice, holeAt, idxAt, pushAt, drawSt, preL, chkL, stp, nxtB_mk, pref_0, pref_b, allocOp, holes, lg, List.length_cons, List.length_nil, List.cons_append, List.nil_append, List.append_nil, List.map_cons, List.map_nil, List.take_succ_cons, List.take_zero, List.take_nil, List.drop_succ_cons, List.drop_zero, List.drop_nil, List.all_cons, List.all_nil, List.contains_cons, List.contains_nil, List.getElem?_cons_zero, List.getElem?_cons_succ, List.getElem?_nil, true_and, and_self, or_true, implies_true, not_false_eq_true, eq_self, ne_eq, Bool.false_eq_true, Bool.not_true, Bool.not_false, Bool.or_false, Bool.and_self, Bool.cond_false, decide_true, Nat.zero_add, Nat.add_zero, Nat.mul_one, Nat.le_refl, Option.getD_some, Option.getD_none, reduceCtorEq, Value.oneCell', ↓reduceIte, Nat.reduceAdd, Nat.reduceSub, Nat.reduceLT, Nat.reduceLeDiff, Nat.reduceBEq, Int.reduceLT, Int.reduceLE, Int.reduceEq, Int.reduceToNat, Int.reduceAdd, ti3, tk5, ts5, ta5, ti5, tk27, ta27, tk30, ts30, ta30, tk41, ts41, ta41, tz41, tr69, tk71, ta71, te71, tf75_0, tf75_1]
            refine ⟨Nat × Nod, fun x => t8b_21 nd (lT b) x.1, fun x => h8b_21 w (c1.hear 1 2 m) x.2, fun x => ArrN (lT b) m w.x1.now 1 x.1 x.2, fun x => (lT b).toNat - x.1, (0, w.x1.ask.hear 2 2 m), hN0, ⟨some [0, 1, 2, 3, 4, 5, 6, 7, 8, 9, 13, 11], ?_⟩, ?_⟩
            · simp only [NwO, Nw, t8b_21, h8b_21, hW2, encC, bN, lN, lg, junks, ri, rb, Int.natCast_zero, NwO, Nw, wk, renJ, renJs, mvH, hgetO, memB, posG, jp, renJB, renJEnts, vwks, vwk1, hwk, bwk, sc, scs, scEnts, lg, List.length_cons, List.length_nil, List.cons_append, List.nil_append, List.take_zero, true_and, and_true, and_self, implies_true, eq_self, Bool.and_self, decide_true, decide_false, Nat.zero_add, Nat.le_refl, reduceCtorEq, Nat.reduceAdd, Nat.reduceLT, Nat.reduceLeDiff, Nat.reduceEqDiff] <;> (and_intros <;> first | rfl | (intro k hk; (rcases k with _ | _ | _ | k <;> first | rfl | omega)))
            · rintro ⟨i2, y⟩ hy F3 hN3 hX3
              have hyh := hy.holds
              have hy1 := hy.hi
              have hy2 := hy.hT
              obtain ⟨q0, q1, q2, q3, q4⟩ := hy.ret
              simp only [cast1, Int.reduceAdd] at q1
              cases hlt2 : decide ((i2 : Int) < lT b) with
              | false =>
                rw [hlt2] at hyh
                simp only [t8b_21, h8b_21, junks, pl8, hlt2, encC, hW2, bN, lN, lg, ri, rb, eng, litSt, srunA_nil, srunA_b, stepR, contB_mk, r0, regC, sop, unw, strip, sev, tg, tset, tput, needs, opNeeds, sBin, ibin, shiftOp, selC, lg, List.cons_append, List.nil_append, true_and, and_self, or_true, eq_self, Bool.false_eq_true]
                refine hX3 _ _ _ (by simp) ?_
                simp only [popF, pl8, ΓV2, c16, hyh, cK, cM, ivn, lix, lof, lln, el0, el1, cellOf, lstF, nodupB, ren, rens, decN2, Nod.eta, onNat, allN, sigN, decN, encN, ri, rb, renB, rens, ren, sig, subH, updH, eng, litSt, srunA_nil, srunA_b, stepR, contB_mk, r0, r1, r2, regC, sop, unw, strip, sev, tg, tset, tput, needs, opNeeds, gb, gslot, gdst, onth, wants, sPick, popF, exitC, sCall, sUn, hget, hset, List.length_cons, List.length_nil, List.append_nil, List.map_cons, List.map_nil, List.contains_cons, List.contains_nil, List.getElem?_cons_zero, List.getElem?_cons_succ, true_and, and_self, implies_true, eq_self, Bool.true_eq_false, Bool.not_false, Bool.or_false, Bool.and_self, Bool.cond_true, Nat.zero_add, Nat.add_zero, Option.getD_some, ↓reduceIte, Nat.reduceAdd, Nat.reduceSub, Nat.reduceLT, Nat.reduceBEq]
                exact hF _ _ _ ⟨trivial, by simp only [Try.f8, rb, retP, sResults, sRes1, resK, retV, vwk, vwk1, hwk, sc, tg, List.length_nil, and_self, eq_self, Nat.le_refl]⟩
              | true =>
                rw [hlt2] at hyh
                have hi2 : (i2 : Int) < lT b := of_decide_eq_true hlt2
                have hw2 : IntKind.i64.wrap ((i2 : Int) + 1) = i2 + 1 := wrap1 (by omega) (by omega)
                cases hh : decide ((i2 : Int) = IntKind.i64.wrap ((lT b).tdiv 2)) && decide (128 ≤ IntKind.i64.wrap nd) with
                | true =>
                  rw [Bool.and_eq_true] at hh
                  simp only [t8b_21, h8b_21, junks, pl8, ΓV2, c16, hlt2, hyh, hh.1, hh.2, q0, q1, q2, q3, q4, f4, f5, cK, onK, cM, decC2, ivn, lix, lof, lln, el0, el1, hd1, cellOf, lstN, lstF, nodupB, ren, rens, encC, hW2, bN, lN, decN2, lg, Cen.eta, Nod.eta, onNat, allN, sigN, decN, encN, ret_word, says_word, bsl, ri, rb, renB, rens, ren, sig, subH, updH, eng, litSt, srunA_nil, srunA_b, stepR, contB_mk, r0, r1, r2, regC, sop, unw, strip, sev, tg, tset, tput, needs, opNeeds, sBin, ibin, shiftOp, gb, gslot, gdst, onth, wants, sPick, selC, sLoad, sStore, sExtract, sField, sNew, sAlloc, sCall, sUn, sConv, cellsAt, hget, hset, hd1, vcells, one, splice, holeAt, idxAt, pushAt, lg, List.length_cons, List.length_nil, List.cons_append, List.nil_append, List.append_nil, List.map_cons, List.map_nil, List.take_succ_cons, List.take_zero, List.take_nil, List.drop_succ_cons, List.drop_zero, List.drop_nil, List.all_cons, List.all_nil, List.contains_cons, List.contains_nil, List.getElem?_cons_zero, List.getElem?_cons_succ, true_and, and_self, or_true, implies_true, not_false_eq_true, eq_self, ne_eq, Bool.true_eq_false, Bool.false_eq_true, Bool.not_true, Bool.not_false, Bool.or_false, Bool.and_self, Bool.cond_true, decide_true, Nat.zero_add, Nat.add_zero, Nat.le_refl, Option.getD_some, reduceCtorEq, Value.oneCell', ↓reduceIte, Nat.reduceAdd, Nat.reduceSub, Nat.reduceLT, Nat.reduceLeDiff, Nat.reduceBEq, Int.reduceEq, ti3, ti5, tk27, ta27, tk41, ts41, ta41, tz41, tf75_0]
                  refine hX3 _ _ _ (by simp) ?_
                  simp only [popF, eng, popF]
                  exact hF _ _ _ ⟨trivial, by simp only [Try.f8, rb, retP, sResults, sRes1, resK, retV, vwk, vwk1, hwk, sc, tg, List.length_nil, and_self, eq_self, Nat.le_refl]⟩
                | false =>
                  cases hh1 : decide ((i2 : Int) = IntKind.i64.wrap ((lT b).tdiv 2)) with
                  | true =>
                    cases hh2 : decide (128 ≤ IntKind.i64.wrap nd) with
                    | true => rw [hh1, hh2] at hh; cases hh
                    | false =>
                      simp only [t8b_21, h8b_21, junks, pl8, ΓV2, hlt2, hyh, hh1, hh2, hw2, cK, cM, ivn, lix, lof, lln, el0, el1, cellOf, lstF, nodupB, ren, rens, encC, hW2, bN, lN, decN2, lg, Nod.eta, onNat, allN, sigN, decN, encN, ri, rb, renB, rens, ren, sig, subH, updH, eng, litSt, srunA_nil, srunA_b, stepR, contB_mk, r0, r1, r2, regC, sop, unw, strip, sev, tg, tset, tput, needs, opNeeds, sBin, ibin, shiftOp, gb, gslot, gdst, onth, wants, sPick, selC, sCall, sUn, sConv, hget, hset, lg, List.length_cons, List.length_nil, List.cons_append, List.nil_append, List.append_nil, List.map_cons, List.map_nil, List.contains_cons, List.contains_nil, List.getElem?_cons_zero, List.getElem?_cons_succ, true_and, and_self, or_true, implies_true, not_false_eq_true, eq_self, ne_eq, Bool.true_eq_false, Bool.false_eq_true, Bool.not_true, Bool.not_false, Bool.or_false, Bool.and_self, Bool.cond_true, Nat.zero_add, Nat.add_zero, Option.getD_some, ↓reduceIte, Nat.reduceAdd, Nat.reduceSub, Nat.reduceLT, Nat.reduceBEq, Int.reduceEq, ti3, ti5]
                      refine hN3 none (i2 + 1, y.tk) _ _ (hy.tick hi2) (by simp only; omega) ?_
                      simp only [NwO, Nw, t8b_21, h8b_21, hW2, encC, bN, lN, lg, junks, ri, rb, Int.natCast_add, Int.natCast_one, NwO, Nw, wk, vwks, vwk1, hwk, bwk, sc, scs, scEnts, lg, List.length_cons, List.length_nil, List.cons_append, List.nil_append, true_and, and_true, and_self, implies_true, eq_self, Bool.and_self, decide_true, Nat.zero_add, Nat.le_refl, Nat.reduceAdd, Nat.reduceLT, Nat.reduceLeDiff] <;> (and_intros <;> first | rfl | (intro k hk; (rcases k with _ | _ | _ | k <;> first | rfl | omega)))
                  | false =>
                    simp only [t8b_21, h8b_21, junks, pl8, ΓV2, hlt2, hyh, hh1, hw2, cK, cM, ivn, lix, lof, lln, el0, el1, cellOf, lstF, nodupB, ren, rens, encC, hW2, bN, lN, decN2, lg, Nod.eta, onNat, allN, sigN, decN, encN, ri, rb, renB, rens, ren, sig, subH, updH, eng, litSt, srunA_nil, srunA_b, stepR, contB_mk, r0, r1, r2, regC, sop, unw, strip, sev, tg, tset, tput, needs, opNeeds, sBin, ibin, shiftOp, gb, gslot, gdst, onth, wants, sPick, selC, sCall, sUn, sConv, hget, hset, lg, List.length_cons, List.length_nil, List.cons_append, List.nil_append, List.append_nil, List.map_cons, List.map_nil, List.contains_cons, List.contains_nil, List.getElem?_cons_zero, List.getElem?_cons_succ, true_and, and_self, or_true, implies_true, imp_self, not_false_eq_true, eq_self, ne_eq, Bool.false_eq_true, Bool.not_true, Bool.not_false, Bool.or_false, Bool.and_self, Bool.cond_false, Nat.zero_add, Nat.add_zero, Option.getD_some, ↓reduceIte, Nat.reduceAdd, Nat.reduceSub, Nat.reduceLT, Nat.reduceBEq, Int.reduceEq, ti3, ti5]
                    refine hN3 none (i2 + 1, y.tk) _ _ (hy.tick hi2) (by simp only; omega) ?_
                    simp only [NwO, Nw, t8b_21, h8b_21, hW2, encC, bN, lN, lg, junks, ri, rb, Int.natCast_add, Int.natCast_one, NwO, Nw, wk, vwks, vwk1, hwk, bwk, sc, scs, scEnts, lg, List.length_cons, List.length_nil, List.cons_append, List.nil_append, true_and, and_true, and_self, implies_true, eq_self, Bool.and_self, decide_true, Nat.zero_add, Nat.le_refl, Nat.reduceAdd, Nat.reduceLT, Nat.reduceLeDiff] <;> (and_intros <;> first | rfl | (intro k hk; (rcases k with _ | _ | _ | k <;> first | rfl | omega)))
      | true =>
        have hil : i < n := by simp at hlt; omega
        obtain ⟨bb, o, rfl, hcell⟩ := hE.1 (by omega)
        obtain ⟨c0, c1⟩ := hcell i hil
        have hby := hE.2 i hil
        have hlt' : ((i : Int) < n) = True := by simp; omega
        have hw : IntKind.i64.wrap ((i : Int) + 1) = i + 1 := wrap1 (by omega) (by omega)
        have r := hr.step (by decide) hT' hS (by omega) (what := e0 i) hby.1
        have hfit : Fit 2 w = True := eq_true (hr.fit (by decide) hT' hS (by omega))
        have hb0 : (0 ≤ e1 i) = True := eq_true hby.1
        have hb1 : (e1 i < 256) = True := eq_true hby.2
        have hdn := hr.rest
        simp only [t8_2, h8_2, junks, pl8, ΓV2, onHap2, preHap2, decV2, hU0_2, tU2, lS, eWs, decC2, ivn, lof, lln, el0, el1, el2, hd1, cellOf, lstN, lstF, encC, eW, hW2, bN, lN, decN2, lg, Cen.eta, Nod.eta, etaL2 w (hdn 2 (by decide) (by decide)), hlt', c0, c1, hw, hfit, hb0, hb1, ri, rb, ↓engE, drawE_mk, eng, litSt, srunA_nil, srunA_b, stepR, contB_mk, r0, r1, r2, regC, sop, unw, strip, sev, tg, tset, tput, needs, opNeeds, sBin, ibin, shiftOp, gb, gslot, gdst, onth, wants, sPick, selC, sLoad, sStore, sExtract, sIndex, sLen, sCall, sBuiltin, cellsAt, roCells, hget, hset, hd1, vcells, one, splice, drawSt, preL, chkL, stp, nxtB_mk, pref_0, pref_b, allocOp, holes, lg, List.length_cons, List.length_nil, List.cons_append, List.nil_append, List.append_nil, List.map_cons, List.map_nil, List.take_succ_cons, List.take_zero, List.take_nil, List.drop_succ_cons, List.drop_zero, List.drop_nil, List.all_cons, List.all_nil, List.getElem?_cons_zero, List.getElem?_cons_succ, true_and, and_self, or_true, implies_true, eq_self, Bool.true_eq_false, Bool.false_eq_true, Bool.and_self, Bool.cond_true, decide_true, Nat.zero_add, Nat.le_refl, Int.toNat_natCast, Int.natCast_nonneg, Option.getD_some, Option.isSome_some, Value.oneCell', ↓reduceIte, Nat.reduceAdd, te70, tk75, ts75, ta75, tk80, ts80, ta80]
        refine hN (some [0, 1, 2, 3, 13, 5, 6, 7, 14, 9, 15, 11, 12]) (i + 1, w.step 2 (e0 i) (e1 i)) _ _ ⟨by simp only; omega, r⟩ (by simp only; omega) ?_
        simp only [NwO, Nw, t8_2, h8_2, hW2, encC, bN, lN, lg, junks, ri, rb, Int.natCast_add, Int.natCast_one, NwO, Nw, wk, renJ, renJs, mvH, hgetO, memB, posG, jp, renJB, renJEnts, vwks, vwk1, hwk, bwk, sc, scs, scEnts, lg, List.length_cons, List.length_nil, List.cons_append, List.nil_append, List.take_zero, true_and, and_true, and_self, implies_true, eq_self, Bool.and_self, decide_true, decide_false, Nat.zero_add, Nat.le_refl, reduceCtorEq, Nat.reduceAdd, Nat.reduceLT, Nat.reduceLeDiff, Nat.reduceEqDiff] <;> (and_intros <;> first | rfl | (intro k hk; (rcases k with _ | _ | _ | k <;> first | rfl | omega)))
end Go.Proofs.Ytmnpnnegnlhemaa.Eng
namespace Go.Proofs.Ytmnpnnegnlhemaa.Eng
open Go

def t8_3 (v : Value) (nd : Int) (i : Nat) : List SV := [.junk, .raw v, .raw (.int .u8 nd), .ptr 14 0, .junk, .junk, .junk, .ptr 13 0, .raw (.bool true), ri (i : Int)] ++ junks 163
def h8_3 (w : Wd) (a b c : Int) : List AB := hW3 w ++ [.cells [.ptr 0 0, .lst 3 1 0 3, .lst 4 3 0 w.sl, .lst 5 1 0 3, .lst 6 1 0 3, ri w.slow] 75, .cells [.raw (.int .u8 a), .raw (.int .u8 b), .raw (.int .u8 c)] 69]
def t8b_30 (nd T : Int) (i : Nat) : List SV := [.junk, .junk, .raw (.int .u8 nd), .junk, .junk, .junk, .junk, .ptr 13 0, .junk, .junk, .junk, .junk, .ptr 7 0, ri T, .junk, .junk, .junk, .junk, .junk, ri (i : Int)] ++ junks 153
def h8b_30 (w : Wd) (c2 : Cen) (y : Nod) : List AB := hW3 { w with c := c2, x0 := y } ++ [.cells [.ptr 0 0, .lst 3 1 0 3, .lst 4 3 0 w.sl, .lst 5 1 0 3, .lst 6 1 0 3, ri w.slow] 75]
def t8b_31 (nd T : Int) (i : Nat) : List SV := [.junk, .junk, .raw (.int .u8 nd), .junk, .junk, .junk, .junk, .ptr 13 0, .junk, .junk, .junk, .junk, .ptr 9 0, ri T, .junk, .junk, .junk, .junk, .junk, ri (i : Int)] ++ junks 153
def h8b_31 (w : Wd) (c2 : Cen) (y : Nod) : List AB := hW3 { w with c := c2, x1 := y } ++ [.cells [.ptr 0 0, .lst 3 1 0 3, .lst 4 3 0 w.sl, .lst 5 1 0 3, .lst 6 1 0 3, ri w.slow] 75]
def t8b_32 (nd T : Int) (i : Nat) : List SV := [.junk, .junk, .raw (.int .u8 nd), .junk, .junk, .junk, .junk, .ptr 13 0, .junk, .junk, .junk, .junk, .ptr 11 0, ri T, .junk, .junk, .junk, .junk, .junk, ri (i : Int)] ++ junks 153
def h8b_32 (w : Wd) (c2 : Cen) (y : Nod) : List AB := hW3 { w with c := c2, x2 := y } ++ [.cells [.ptr 0 0, .lst 3 1 0 3, .lst 4 3 0 w.sl, .lst 5 1 0 3, .lst 6 1 0 3, ri w.slow] 75]
set_option maxHeartbeats 8000000 in
set_option maxRecDepth 100000 in
theorem ok8_3 (E : Addr → Option Value) (a b c nd : Int) (aa : Option Addr) (n cap : Nat) (e0 e1 : Nat → Int) (hE : Evts E aa n e0 e1) (ha : (IntKind.i64.wrap a).tmod 3 = 2) (hb : 0 ≤ b ∧ b < 256) (hc : 0 ≤ c ∧ c < 256) (hnd : 0 ≤ nd ∧ nd < 256) :
    Ok Try.prog E 8 [.agg [.raw (.int .u8 a), .raw (.int .u8 b), .raw (.int .u8 c)], .raw (.slice aa n cap), .raw (.int .u8 nd)] [] (rb true) [] := by
  refine ok_of_eng (pl := pl8) mixed (ΓV3_sound E) Try.func8 rfl rfl (by kernel_rfl) (by simp) 300 (fun F hF => ?_)
  cases hn : decide ((400 : Int) < n) with
  | true =>
    simp only [Try.f8, pl8, ΓV3, c16, hn, eng, litSt, srunA_nil, srunA_b, stepR, contB_mk, r0, regC, sop, unw, strip, sev, tg, tset, tput, undefs, needs, opNeeds, sBin, ibin, shiftOp, selC, sLen, sBox, sCall, sBuiltin, vcells, one, holeAt, idxAt, pushAt, List.length_cons, List.length_nil, List.cons_append, List.nil_append, List.map_cons, List.map_nil, List.all_cons, List.all_nil, true_and, and_self, or_true, eq_self, Bool.false_eq_true, Bool.and_self, Nat.zero_add, Value.oneCell', Nat.reduceAdd, Nat.reduceSub, te70]
    exact hF _ _ _ ⟨trivial, by simp only [Try.f8, rb, retP, sResults, sRes1, resK, retV, vwk, vwk1, hwk, sc, tg, List.length_nil, and_self, eq_self, Nat.le_refl]⟩
  | false =>
    have hn' : n ≤ 400 := by simp at hn; omega
    have hT := lT_le hb
    have hS := lS0_le hc
    have hT' : 1 ≤ lT b ∧ lT b ≤ 12 := ⟨hT.1, hT.2.1⟩
    have hT0 : IntKind.i64.wrap (1 + (IntKind.i64.wrap b).tmod 12) = lT b := rfl
    have hl : layOk3 a b c = True := eq_true ⟨ha, cenOk_of (by decide) hT' hS, nodeOk_of (by decide) hT', nodeOk_of (by decide) hT', nodeOk_of (by decide) hT'⟩
    simp only [Try.f8, pl8, ΓV3, c40_3, hl, eW0_3, w0_3, newC, newN, hn, ren, rens, encC, hW3, bN, lN, lg, ri, rb, renB, rens, ren, renEnts, sig, updH, eng, litSt, srunA_nil, srunA_b, stepR, contB_mk, r0, regC, sop, unw, strip, sev, tg, tset, tput, undefs, needs, opNeeds, sBin, ibin, shiftOp, selC, sLoad, sStore, sExtract, sLen, sNew, sAlloc, sBox, sCall, sBuiltin, cellsAt, hget, hset, vcells, one, splice, holeAt, idxAt, pushAt, lg, List.length_cons, List.length_nil, List.cons_append, List.nil_append, List.append_nil, List.map_cons, List.map_nil, List.take_succ_cons, List.take_zero, List.take_nil, List.drop_succ_cons, List.drop_zero, List.drop_nil, List.all_cons, List.all_nil, List.getElem?_cons_zero, List.getElem?_cons_succ, List.getElem?_nil, true_and, and_self, or_true, eq_self, Bool.false_eq_true, Bool.and_self, Nat.zero_add, Nat.add_zero, Nat.sub_zero, Nat.le_refl, Option.getD_none, Value.oneCell', Nat.reduceAdd, Nat.reduceSub, Int.reduceToNat, tk69, ts69, ta69, te70, tk75, ts75, tz75]
    refine ⟨Nat × Wd, fun x => t8_3 (.slice aa n cap) nd x.1, fun x => h8_3 x.2 a b c, fun x => x.1 ≤ n ∧ Run 3 (lT b) (lS0 c) x.1 x.2, fun x => n - x.1, (0, w0_3 (lT b) (lS0 c)), ⟨Nat.zero_le _, run0_3 hT' hS⟩, ⟨some [1, 2, 3, 4, 5, 6, 7, 8, 9, 10, 11, 12, 13, 14, 0], ?_⟩, ?_⟩
    · simp only [NwO, Nw, t8_3, h8_3, w0_3, newC, newN, hW3, encC, bN, lN, lg, junks, ri, rb, Int.natCast_zero, NwO, Nw, wk, renJ, renJs, mvH, hgetO, memB, posG, jp, renJB, renJEnts, vwks, vwk1, hwk, bwk, sc, scs, scEnts, lg, List.length_cons, List.length_nil, List.cons_append, List.nil_append, List.take_zero, true_and, and_true, and_self, implies_true, eq_self, Bool.and_self, decide_true, decide_false, Nat.zero_add, Nat.add_zero, Nat.le_refl, reduceCtorEq, Nat.reduceAdd, Nat.reduceLT, Nat.reduceLeDiff, Nat.reduceEqDiff, Int.reduceToNat] <;> (and_intros <;> first | rfl | (intro k hk; (rcases k with _ | _ | _ | k <;> first | rfl | omega)))
    · rintro ⟨i, w⟩ ⟨hi, hr⟩ F' hN hX
      cases hlt : decide ((i : Int) < n) with
      | false =>
        simp only [t8_3, h8_3, junks, pl8, hlt, ri, eng, litSt, srunA_nil, srunA_b, stepR, contB_mk, r0, r1, r2, regC, sop, unw, strip, sev, tg, tset, tput, needs, opNeeds, sBin, ibin, shiftOp, gb, gslot, gdst, onth, wants, sPick, selC, sLen, sBuiltin, List.cons_append, List.nil_append, List.map_cons, List.map_nil, true_and, and_self, or_true, implies_true, eq_self, Bool.true_eq_false, Bool.false_eq_true, Bool.cond_true, ↓reduceIte, te70]
        refine hX _ _ _ (by simp) ?_
        have hI : True := trivial
        have hF2 : True := trivial
        cases h0' : decide (w.c.node = 0) with
        | false =>
          simp only [popF, pl8, ΓV3, c16, h0', cK, onK, decC2, ivn, hd1, cellOf, lstN, lstF, encC, hW3, bN, lN, lg, Cen.eta, ri, rb, eng, litSt, srunA_nil, srunA_b, stepR, contB_mk, r0, regC, sop, unw, strip, sev, tg, tset, tput, needs, opNeeds, sBin, ibin, shiftOp, popF, selC, exitC, sLoad, sExtract, sField, sCall, sUn, cellsAt, hget, hd1, lg, List.length_cons, List.length_nil, List.cons_append, List.nil_append, List.map_cons, List.map_nil, List.take_succ_cons, List.take_zero, List.drop_succ_cons, List.drop_zero, List.getElem?_cons_zero, List.getElem?_cons_succ, true_and, and_self, or_true, not_false_eq_true, eq_self, ne_eq, Bool.false_eq_true, Bool.not_true, Bool.not_false, Nat.zero_add, Nat.add_zero, reduceCtorEq, Nat.reduceAdd, Nat.reduceLeDiff, Nat.reduceBEq, tk27, ta27, tf75_0]
          exact hF _ _ _ ⟨trivial, by simp only [Try.f8, rb, retP, sResults, sRes1, resK, retV, vwk, vwk1, hwk, sc, tg, List.length_nil, and_self, eq_self, Nat.le_refl]⟩
        | true =>
          have h0 : w.c.node = 0 := of_decide_eq_true h0'
          have hk3 : (IntKind.i64.wrap nd).tmod 3 = 0 ∨ (IntKind.i64.wrap nd).tmod 3 = 1 ∨ (IntKind.i64.wrap nd).tmod 3 = 2 := by
            rw [wrap_byte hnd.1 hnd.2]
            have := tmod_lt hnd.1 (show (0 : Int) < 3 by decide)
            omega
          rcases hk3 with q | q | q
          · have hk0 : (((IntKind.i64.wrap nd).tmod 3 : Int)) = 0 := q
            have hA := arrC (by decide) (by omega) hr (show 0 < 3 by decide) h0
            obtain ⟨a0, a1, a2, a3, b0, b1, b2, hN0⟩ := arrN hT' (by omega) hr (show 0 < 3 ∧ 3 ≤ 3 by decide)
            obtain ⟨f1, f2, _⟩ := hA.reply
            have f3 := hA.held
            obtain ⟨f4, f5⟩ := hA.back
            simp only [Wd.nd, Int.natCast_zero, Int.reduceAdd] at a0 a1 a2 a3 b0 b1 b2 hN0 f1 f2 f3 f4 f5
            have wkk : IntKind.i64.wrap 1 = 1 := by decide
            clear hE hX hF2 hA hr hI
            generalize hm : w.x0.last + 1 = m at *
            generalize hc1 : w.c.want 1 = c1 at *
            simp only [popF, pl8, ΓV3, h0', hk0, hT0, hc1, wkk, a0, a1, a2, a3, b0, b1, b2, f1, f2, f3, cK, onK, cM, decC2, ivn, lix, lof, lln, el0, el1, hd1, cellOf, lstN, lstF, nodupB, ren, rens, encC, hW3, bN, lN, decN2, lg, Cen.eta, Nod.eta, cast3, onNat, sigN, decN, encN, encN2, Nod.room, ask_word, says_word, bsl, ri, rb, renB, rens, ren, sig, subH, updH, ↓engE, drawE_mk, eng, litSt, srunA_nil, srunA_b, stepR, contB_mk, r0, r1, r2, regC, sop, unw, strip, sev, tg, tset, tput, needs, opNeeds, sBin, ibin, shiftOp, gb, gslot, gdst, onth, wants, sPick, popF, selC, exitC, sLoad, sStore, sExtract, sField, sIndex, sLen, sNew, sAlloc, sCall, sBuiltin, sUn, sConv, cellsAt, hget, hset, hd1, vcells, one, splice, holeAt, idxAt, pushAt, drawSt, preL, chkL, stp, nxtB_mk, pref_0, pref_b, allocOp, holes, lg, List.length_cons, List.length_nil, List.cons_append, List.nil_append, List.append_nil, List.map_cons, List.map_nil, List.take_succ_cons, List.take_zero, List.take_nil, List.drop_succ_cons, List.drop_zero, List.drop_nil, List.all_cons, List.all_nil, List.contains_cons, List.contains_nil, List.getElem?_cons_zero, List.getElem?_cons_succ, List.getElem?_nil, true_and, and_self, or_true, implies_true, not_false_eq_true, eq_self, ne_eq, Bool.false_eq_true, Bool.not_true, Bool.not_false, Bool.or_false, Bool.and_self, Bool.cond_false, decide_true, Nat.zero_add, Nat.add_zero, Nat.mul_one, Nat.le_refl, Int.toNat_zero, Option.getD_some, Option.getD_none, reduceCtorEq, Value.oneCell', ↓reduceIte, Nat.reduceAdd, Nat.reduceSub, Nat.reduceLT, Nat.reduceLeDiff, Nat.reduceBEq, Int.reduceLT, Int.reduceLE, Int.reduceEq, Int.reduceToNat, Int.reduceAdd, ti3, tk5, ts5, ta5, ti5, tk27, ta27, tk30, ts30, ta30, tk41, ts41, ta41, tz41, tr69, tk71, ta71, te71, tf75_0, tf75_1]
            refine ⟨Nat × Nod, fun x => t8b_30 nd (lT b) x.1, fun x => h8b_30 w (c1.hear 1 1 m) x.2, fun x => ArrN (lT b) m w.x0.now 0 x.1 x.2, fun x => (lT b).toNat - x.1, (0, w.x0.ask.hear 2 1 m), hN0, ⟨some [0, 1, 2, 3, 4, 5, 6, 7, 15, 9, 10, 11, 12, 13], ?_⟩, ?_⟩
            · simp only [NwO, Nw, t8b_30, h8b_30, hW3, encC, bN, lN, lg, junks, ri, rb, Int.natCast_zero, NwO, Nw, wk, renJ, renJs, mvH, hgetO, memB, posG, jp, renJB, renJEnts, vwks, vwk1, hwk, bwk, sc, scs, scEnts, lg, List.length_cons, List.length_nil, List.cons_append, List.nil_append, List.take_zero, true_and, and_true, and_self, implies_true, eq_self, Bool.and_self, decide_true, decide_false, Nat.zero_add, Nat.le_refl, reduceCtorEq, Nat.reduceAdd, Nat.reduceLT, Nat.reduceLeDiff, Nat.reduceEqDiff] <;> (and_intros <;> first | rfl | (intro k hk; (rcases k with _ | _ | _ | k <;> first | rfl | omega)))
            · rintro ⟨i2, y⟩ hy F3 hN3 hX3
              have hyh := hy.holds
              have hy1 := hy.hi
              have hy2 := hy.hT
              obtain ⟨q0, q1, q2, q3, q4⟩ := hy.ret
              simp only [Int.natCast_zero, Int.reduceAdd] at q1
              cases hlt2 : decide ((i2 : Int) < lT b) with
              | false =>
                rw [hlt2] at hyh
                simp only [t8b_30, h8b_30, junks, pl8, hlt2, encC, hW3, bN, lN, lg, ri, rb, eng, litSt, srunA_nil, srunA_b, stepR, contB_mk, r0, regC, sop, unw, strip, sev, tg, tset, tput, needs, opNeeds, sBin, ibin, shiftOp, selC, lg, List.cons_append, List.nil_append, true_and, and_self, or_true, eq_self, Bool.false_eq_true]
                refine hX3 _ _ _ (by simp) ?_
                simp only [popF, pl8, ΓV3, c16, hyh, cK, cM, ivn, lix, lof, lln, el0, el1, cellOf, lstF, nodupB, ren, rens, decN2, Nod.eta, onNat, allN, sigN, decN, encN, ri, rb, renB, rens, ren, sig, subH, updH, eng, litSt, srunA_nil, srunA_b, stepR, contB_mk, r0, r1, r2, regC, sop, unw, strip, sev, tg, tset, tput, needs, opNeeds, gb, gslot, gdst, onth, wants, sPick, popF, exitC, sCall, sUn, hget, hset, List.length_cons, List.length_nil, List.append_nil, List.map_cons, List.map_nil, List.contains_cons, List.contains_nil, List.getElem?_cons_zero, List.getElem?_cons_succ, true_and, and_self, implies_true, eq_self, Bool.true_eq_false, Bool.not_false, Bool.or_false, Bool.and_self, Bool.cond_true, Nat.zero_add, Nat.add_zero, Option.getD_some, ↓reduceIte, Nat.reduceAdd, Nat.reduceSub, Nat.reduceLT, Nat.reduceBEq]
                exact hF _ _ _ ⟨trivial, by simp only [Try.f8, rb, retP, sResults, sRes1, resK, retV, vwk, vwk1, hwk, sc, tg, List.length_nil, and_self, eq_self, Nat.le_refl]⟩
              | true =>
                rw [hlt2] at hyh
                have hi2 : (i2 : Int) < lT b := of_decide_eq_true hlt2
                have hw2 : IntKind.i64.wrap ((i2 : Int) + 1) = i2 + 1 := wrap1 (by omega) (by omega)
                cases hh : decide ((i2 : Int) = IntKind.i64.wrap ((lT b).tdiv 2)) && decide (128 ≤ IntKind.i64.wrap nd) with
                | true =>
                  rw [Bool.and_eq_true] at hh
                  simp only [t8b_30, h8b_30, junks, pl8, ΓV3, c16, hlt2, hyh, hh.1, hh.2, q0, q1, q2, q3, q4, f4, f5, cK, onK, cM, decC2, ivn, lix, lof, lln, el0, el1, hd1, cellOf, lstN, lstF, nodupB, ren, rens, encC, hW3, bN, lN, decN2, lg, Cen.eta, Nod.eta, onNat, allN, sigN, decN, encN, ret_word, says_word, bsl, ri, rb, renB, rens, ren, sig, subH, updH, eng, litSt, srunA_nil, srunA_b, stepR, contB_mk, r0, r1, r2, regC, sop, unw, strip, sev, tg, tset, tput, needs, opNeeds, sBin, ibin, shiftOp, gb, gslot, gdst, onth, wants, sPick, selC, sLoad, sStore, sExtract, sField, sNew, sAlloc, sCall, sUn, sConv, cellsAt, hget, hset, hd1, vcells, one, splice, holeAt, idxAt, pushAt, lg, List.length_cons, List.length_nil, List.cons_append, List.nil_append, List.append_nil, List.map_cons, List.map_nil, List.take_succ_cons, List.take_zero, List.take_nil, List.drop_succ_cons, List.drop_zero, List.drop_nil, List.all_cons, List.all_nil, List.contains_cons, List.contains_nil, List.getElem?_cons_zero, List.getElem?_cons_succ, true_and, and_self, or_true, implies_true, not_false_eq_true, eq_self, ne_eq, Bool.true_eq_false, Bool.false_eq_true, Bool.not_true, Bool.not_false, Bool.or_false, Bool.and_self, Bool.cond_true, decide_true, Nat.zero_add, Nat.add_zero, Nat.le_refl, Option.getD_some, reduceCtorEq, Value.oneCell', ↓reduceIte, Nat.reduceAdd, Nat.reduceSub, Nat.reduceLT, Nat.reduceLeDiff, Nat.reduceBEq, Int.reduceEq, ti3, ti5, tk27, ta27, tk41, ts41, ta41, tz41, tf75_0]
                  refine hX3 _ _ _ (by simp) ?_
                  simp only [popF, eng, popF]
                  exact hF _ _ _ ⟨trivial, by simp only [Try.f8, rb, retP, sResults, sRes1, resK, retV, vwk, vwk1, hwk, sc, tg, List.length_nil, and_self, eq_self, Nat.le_refl]⟩
                | false =>
                  cases hh1 : decide ((i2 : Int) = IntKind.i64.wrap ((lT b).tdiv 2)) with
                  | true =>
                    cases hh2 : decide (128 ≤ IntKind.i64.wrap nd) with
                    | true => rw [hh1, hh2] at hh; cases hh
                    | false =>
                      simp only [t8b_30, h8b_30, junks, pl8, ΓV3, hlt2, hyh, hh1, hh2, hw2, cK, cM, ivn, lix, lof, lln, el0, el1, cellOf, lstF, nodupB, ren, rens, encC, hW3, bN, lN, decN2, lg, Nod.eta, onNat, allN, sigN, decN, encN, ri, rb, renB, rens, ren, sig, subH, updH, eng, litSt, srunA_nil, srunA_b, stepR, contB_mk, r0, r1, r2, regC, sop, unw, strip, sev, tg, tset, tput, needs, opNeeds, sBin, ibin, shiftOp, gb, gslot, gdst, onth, wants, sPick, selC, sCall, sUn, sConv, hget, hset, lg, List.length_cons, List.length_nil, List.cons_append, List.nil_append, List.append_nil, List.map_cons, List.map_nil, List.contains_cons, List.contains_nil, List.getElem?_cons_zero, List.getElem?_cons_succ, true_and, and_self, or_true, implies_true, not_false_eq_true, eq_self, ne_eq, Bool.true_eq_false, Bool.false_eq_true, Bool.not_true, Bool.not_false, Bool.or_false, Bool.and_self, Bool.cond_true, Nat.zero_add, Nat.add_zero, Option.getD_some, ↓reduceIte, Nat.reduceAdd, Nat.reduceSub, Nat.reduceLT, Nat.reduceBEq, Int.reduceEq, ti3, ti5]
                      refine hN3 none (i2 + 1, y.tk) _ _ (hy.tick hi2) (by simp only; omega) ?_
                      simp only [NwO, Nw, t8b_30, h8b_30, hW3, encC, bN, lN, lg, junks, ri, rb, Int.natCast_add, Int.natCast_one, NwO, Nw, wk, vwks, vwk1, hwk, bwk, sc, scs, scEnts, lg, List.length_cons, List.length_nil, List.cons_append, List.nil_append, true_and, and_true, and_self, implies_true, eq_self, Bool.and_self, decide_true, Nat.zero_add, Nat.le_refl, Nat.reduceAdd, Nat.reduceLT, Nat.reduceLeDiff] <;> (and_intros <;> first | rfl | (intro k hk; (rcases k with _ | _ | _ | k <;> first | rfl | omega)))
                  | false =>
                    simp only [t8b_30, h8b_30, junks, pl8, ΓV3, hlt2, hyh, hh1, hw2, cK, cM, ivn, lix, lof, lln, el0, el1, cellOf, lstF, nodupB, ren, rens, encC, hW3, bN, lN, decN2, lg, Nod.eta, onNat, allN, sigN, decN, encN, ri, rb, renB, rens, ren, sig, subH, updH, eng, litSt, srunA_nil, srunA_b, stepR, contB_mk, r0, r1, r2, regC, sop, unw, strip, sev, tg, tset, tput, needs, opNeeds, sBin, ibin, shiftOp, gb, gslot, gdst, onth, wants, sPick, selC, sCall, sUn, sConv, hget, hset, lg, List.length_cons, List.length_nil, List.cons_append, List.nil_append, List.append_nil, List.map_cons, List.map_nil, List.contains_cons, List.contains_nil, List.getElem?_cons_zero, List.getElem?_cons_succ, true_and, and_self, or_true, implies_true, imp_self, not_false_eq_true, eq_self, ne_eq, Bool.false_eq_true, Bool.not_true, Bool.not_false, Bool.or_false, Bool.and_self, Bool.cond_false, Nat.zero_add, Nat.add_zero, Option.getD_some, ↓reduceIte, Nat.reduceAdd, Nat.reduceSub, Nat.reduceLT, Nat.reduceBEq, Int.reduceEq, ti3, ti5]
                    refine hN3 none (i2 + 1, y.tk) _ _ (hy.tick hi2) (by simp only; omega) ?_
                    simp only [NwO, Nw, t8b_30, h8b_30, hW3, encC, bN, lN, lg, junks, ri, rb, Int.natCast_add, Int.natCast_one, NwO, Nw, wk, vwks, vwk1, hwk, bwk, sc, scs, scEnts, lg, List.length_cons, List.length_nil, List.cons_append, List.nil_append, true_and, and_true, and_self, implies_true, eq_self, Bool.and_self, decide_true, Nat.zero_add, Nat.le_refl, Nat.reduceAdd, Nat.reduceLT, Nat.reduceLeDiff] <;> (and_intros <;> first | rfl | (intro k hk; (rcases k with _ | _ | _ | k <;> first | rfl | omega)))
          · have hk1 : (((IntKind.i64.wrap nd).tmod 3 : Int)) = 1 := q
            have hA := arrC (by decide) (by omega) hr (show 1 < 3 by decide) h0
            obtain ⟨a0, a1, a2, a3, b0, b1, b2, hN0⟩ := arrN hT' (by omega) hr (show 1 < 3 ∧ 3 ≤ 3 by decide)
            obtain ⟨f1, f2, _⟩ := hA.reply
            have f3 := hA.held
            obtain ⟨f4, f5⟩ := hA.back
            simp only [Wd.nd, cast1, Int.reduceAdd] at a0 a1 a2 a3 b0 b1 b2 hN0 f1 f2 f3 f4 f5
            have wkk : IntKind.i64.wrap 2 = 2 := by decide
            clear hE hX hF2 hA hr hI
            generalize hm : w.x1.last + 1 = m at *
            generalize hc1 : w.c.want 2 = c1 at *
            simp only [popF, pl8, ΓV3, h0', hk1, hT0, hc1, wkk, a0, a1, a2, a3, b0, b1, b2, f1, f2, f3, cK, onK, cM, decC2, ivn, lix, lof, lln, el0, el1, hd1, cellOf, lstN, lstF, nodupB, ren, rens, encC, hW3, bN, lN, decN2, lg, Cen.eta, Nod.eta, cast3, onNat, sigN, decN, encN, encN2, Nod.room, ask_word, says_word, bsl, ri, rb, renB, rens, ren, sig, subH, updH, ↓engE, drawE_mk, eng, litSt, srunA_nil, srunA_b, stepR, contB_mk, r0, r1, r2, regC, sop, unw, strip, sev, tg, tset, tput, needs, opNeeds, sBin, ibin, shiftOp, gb, gslot, gdst, onth, wants, sPick, popF, selC, exitC, sLoad, sStore, sExtract, sField, sIndex, sLen, sNew, sAlloc, sCall, sBuiltin, sUn, sConv, cellsAt, hget, hset, hd1, vcells, one, splice, holeAt, idxAt, pushAt, drawSt, preL, chkL, stp, nxtB_mk, pref_0, pref_b, allocOp, holes, lg, List.length_cons, List.length_nil, List.cons_append, List.nil_append, List.append_nil, List.map_cons, List.map_nil, List.take_succ_cons, List.take_zero, List.take_nil, List.drop_succ_cons, List.drop_zero, List.drop_nil, List.all_cons, List.all_nil, List.contains_cons, List.contains_nil, List.getElem?_cons_zero, List.getElem?_cons_succ, List.getElem?_nil, true_and, and_self, or_true, implies_true, not_false_eq_true, eq_self, ne_eq, Bool.false_eq_true, Bool.not_true, Bool.not_false, Bool.or_false, Bool.and_self, Bool.cond_false, decide_true, Nat.zero_add, Nat.add_zero, Nat.mul_one, Nat.le_refl, Option.getD_some, Option.getD_none, reduceCtorEq, Value.oneCell', ↓reduceIte, Nat.reduceAdd, Nat.reduceSub, Nat.reduceLT, Nat.reduceLeDiff, Nat.reduceBEq, Int.reduceLT, Int.reduceLE, Int.reduceEq, Int.reduceToNat, Int.reduceAdd, ti3, tk5, ts5, ta5, ti5, tk27, ta27, tk30, ts30, ta30, tk41, ts41, ta41, tz41, tr69, tk71, ta71, te71, tf75_0, tf75_1]
            refine ⟨Nat × Nod, fun x => t8b_31 nd (lT b) x.1, fun x => h8b_31 w (c1.hear 1 2 m) x.2, fun x => ArrN (lT b) m w.x1.now 1 x.1 x.2, fun x => (lT b).toNat - x.1, (0, w.x1.ask.hear 2 2 m), hN0, ⟨some [0, 1, 2, 3, 4, 5, 6, 7, 8, 9, 15, 11, 12, 13], ?_⟩, ?_⟩
            · simp only [NwO, Nw, t8b_31, h8b_31, hW3, encC, bN, lN, lg, junks, ri, rb, Int.natCast_zero, NwO, Nw, wk, renJ, renJs, mvH, hgetO, memB, posG, jp, renJB, renJEnts, vwks, vwk1, hwk, bwk, sc, scs, scEnts, lg, List.length_cons, List.length_nil, List.cons_append, List.nil_append, List.take_zero, true_and, and_true, and_self, implies_true, eq_self, Bool.and_self, decide_true, decide_false, Nat.zero_add, Nat.le_refl, reduceCtorEq, Nat.reduceAdd, Nat.reduceLT, Nat.reduceLeDiff, Nat.reduceEqDiff] <;> (and_intros <;> first | rfl | (intro k hk; (rcases k with _ | _ | _ | k <;> first | rfl | omega)))
            · rintro ⟨i2, y⟩ hy F3 hN3 hX3
              have hyh := hy.holds
              have hy1 := hy.hi
              have hy2 := hy.hT
              obtain ⟨q0, q1, q2, q3, q4⟩ := hy.ret
              simp only [cast1, Int.reduceAdd] at q1
              cases hlt2 : decide ((i2 : Int) < lT b) with
              | false =>
                rw [hlt2] at hyh
                simp only [t8b_31, h8b_31, junks, pl8, hlt2, encC, hW3, bN, lN, lg, ri, rb, eng, litSt, srunA_nil, srunA_b, stepR, contB_mk, r0, regC, sop, unw, strip, sev, tg, tset, tput, needs, opNeeds, sBin, ibin, shiftOp, selC, lg, List.cons_append, List.nil_append, true_and, and_self, or_true, eq_self, Bool.false_eq_true]
                refine hX3 _ _ _ (by simp) ?_
                simp only [popF, pl8, ΓV3, c16, hyh, cK, cM, ivn, lix, lof, lln, el0, el1, cellOf, lstF, nodupB, ren, rens, decN2, Nod.eta, onNat, allN, sigN, decN, encN, ri, rb, renB, rens, ren, sig, subH, updH, eng, litSt, srunA_nil, srunA_b, stepR, contB_mk, r0, r1, r2, regC, sop, unw, strip, sev, tg, tset, tput, needs, opNeeds, gb, gslot, gdst, onth, wants, sPick, popF, exitC, sCall, sUn, hget, hset, List.length_cons, List.length_nil, List.append_nil, List.map_cons, List.map_nil, List.contains_cons, List.contains_nil, List.getElem?_cons_zero, List.getElem?_cons_succ, true_and, and_self, implies_true, eq_self, Bool.true_eq_false, Bool.not_false, Bool.or_false, Bool.and_self, Bool.cond_true, Nat.zero_add, Nat.add_zero, Option.getD_some, ↓reduceIte, Nat.reduceAdd, Nat.reduceSub, Nat.reduceLT, Nat.reduceBEq]
                exact hF _ _ _ ⟨trivial, by simp only [Try.f8, rb, retP, sResults, sRes1, resK, retV, vwk, vwk1, hwk, sc, tg, List.length_nil, and_self, eq_self, Nat.le_refl]⟩
              | true =>
                rw [hlt2] at hyh
                have hi2 : (i2 : Int) < lT b := of_decide_eq_true hlt2
                have hw2 : IntKind.i64.wrap ((i2 : Int) + 1) = i2 + 1 := wrap1 (by omega) (by omega)
                cases hh : decide ((i2 : Int) = IntKind.i64.wrap ((lT b).tdiv 2)) && decide (128 ≤ IntKind.i64.wrap nd) with
                | true =>
                  rw [Bool.and_eq_true] at hh
                  simp only [t8b_31, h8b_31, junks, pl8, ΓV3, c16, hlt2, hyh, hh.1, hh.2, q0, q1, q2, q3, q4, f4, f5, cK, onK, cM, decC2, ivn, lix, lof, lln, el0, el1, hd1, cellOf, lstN, lstF, nodupB, ren, rens, encC, hW3, bN, lN, decN2, lg, Cen.eta, Nod.eta, onNat, allN, sigN, decN, encN, ret_word, says_word, bsl, ri, rb, renB, rens, ren, sig, subH, updH, eng, litSt, srunA_nil, srunA_b, stepR, contB_mk, r0, r1, r2, regC, sop, unw, strip, sev, tg, tset, tput, needs, opNeeds, sBin, ibin, shiftOp, gb, gslot, gdst, onth, wants, sPick, selC, sLoad, sStore, sExtract, sField, sNew, sAlloc, sCall, sUn, sConv, cellsAt, hget, hset, hd1, vcells, one, splice, holeAt, idxAt, pushAt, lg, List.length_cons, List.length_nil, List.cons_append, List.nil_append, List.append_nil, List.map_cons, List.map_nil, List.take_succ_cons, List.take_zero, List.take_nil, List.drop_succ_cons, List.drop_zero, List.drop_nil, List.all_cons, List.all_nil, List.contains_cons, List.contains_nil, List.getElem?_cons_zero, List.getElem?_cons_succ, true_and, and_self, or_true, implies_true, not_false_eq_true, eq_self, ne_eq, Bool.true_eq_false, Bool.false_eq_true, Bool.not_true, Bool.not_false, Bool.or_false, Bool.and_self, Bool.cond_true, decide_true, Nat.zero_add, Nat.add_zero, Nat.le_refl, Option.getD_some, reduceCtorEq, Value.oneCell', ↓reduceIte, Nat.reduceAdd, Nat.reduceSub, Nat.reduceLT, Nat.reduceLeDiff, Nat.reduceBEq, Int.reduceEq, ti3, ti5, tk27, ta27, tk41, ts41, ta41, tz41, tf75_0]
                  refine hX3 _ _ _ (by simp) ?_
                  simp only [popF, eng, popF]
                  exact hF _ _ _ ⟨trivial, by simp only [Try.f8, rb, retP, sResults, sRes1, resK, retV, vwk, vwk1, hwk, sc, tg, List.length_nil, and_self, eq_self, Nat.le_refl]⟩
                | false =>
                  cases hh1 : decide ((i2 : Int) = IntKind.i64.wrap ((lT b).tdiv 2)) with
                  | true =>
                    cases hh2 : decide (128 ≤ IntKind.i64.wrap nd) with
                    | true => rw [hh1, hh2] at hh; cases hh
                    | false =>
                      simp only [t8b_31, h8b_31, junks, pl8, ΓV3, hlt2, hyh, hh1, hh2, hw2, cK, cM, ivn, lix, lof, lln, el0, el1, cellOf, lstF, nodupB, ren, rens, encC, hW3, bN, lN, decN2, lg, Nod.eta, onNat, allN, sigN, decN, encN, ri, rb, renB, rens, ren, sig, subH, updH, eng, litSt, srunA_nil, srunA_b, stepR, contB_mk, r0, r1, r2, regC, sop, unw, strip, sev, tg, tset, tput, needs, opNeeds, sBin, ibin, shiftOp, gb, gslot, gdst, onth, wants, sPick, selC, sCall, sUn, sConv, hget, hset, lg, List.length_cons, List.length_nil, List.cons_append, List.nil_append, List.append_nil, List.map_cons, List.map_nil, List.contains_cons, List.contains_nil, List.getElem?_cons_zero, List.getElem?_cons_succ, true_and, and_self, or_true, implies_true, not_false_eq_true, eq_self, ne_eq, Bool.true_eq_false, Bool.false_eq_true, Bool.not_true, Bool.not_false, Bool.or_false, Bool.and_self, Bool.cond_true, Nat.zero_add, Nat.add_zero, Option.getD_some, ↓reduceIte, Nat.reduceAdd, Nat.reduceSub, Nat.reduceLT, Nat.reduceBEq, Int.reduceEq, ti3, ti5]
                      refine hN3 none (i2 + 1, y.tk) _ _ (hy.tick hi2) (by simp only; omega) ?_
                      simp only [NwO, Nw, t8b_31, h8b_31, hW3, encC, bN, lN, lg, junks, ri, rb, Int.natCast_add, Int.natCast_one, NwO, Nw, wk, vwks, vwk1, hwk, bwk, sc, scs, scEnts, lg, List.length_cons, List.length_nil, List.cons_append, List.nil_append, true_and, and_true, and_self, implies_true, eq_self, Bool.and_self, decide_true, Nat.zero_add, Nat.le_refl, Nat.reduceAdd, Nat.reduceLT, Nat.reduceLeDiff] <;> (and_intros <;> first | rfl | (intro k hk; (rcases k with _ | _ | _ | k <;> first | rfl | omega)))
                  | false =>
                    simp only [t8b_31, h8b_31, junks, pl8, ΓV3, hlt2, hyh, hh1, hw2, cK, cM, ivn, lix, lof, lln, el0, el1, cellOf, lstF, nodupB, ren, rens, encC, hW3, bN, lN, decN2, lg, Nod.eta, onNat, allN, sigN, decN, encN, ri, rb, renB, rens, ren, sig, subH, updH, eng, litSt, srunA_nil, srunA_b, stepR, contB_mk, r0, r1, r2, regC, sop, unw, strip, sev, tg, tset, tput, needs, opNeeds, sBin, ibin, shiftOp, gb, gslot, gdst, onth, wants, sPick, selC, sCall, sUn, sConv, hget, hset, lg, List.length_cons, List.length_nil, List.cons_append, List.nil_append, List.append_nil, List.map_cons, List.map_nil, List.contains_cons, List.contains_nil, List.getElem?_cons_zero, List.getElem?_cons_succ, true_and, and_self, or_true, implies_true, imp_self, not_false_eq_true, eq_self, ne_eq, Bool.false_eq_true, Bool.not_true, Bool.not_false, Bool.or_false, Bool.and_self, Bool.cond_false, Nat.zero_add, Nat.add_zero, Option.getD_some, ↓reduceIte, Nat.reduceAdd, Nat.reduceSub, Nat.reduceLT, Nat.reduceBEq, Int.reduceEq, ti3, ti5]
                    refine hN3 none (i2 + 1, y.tk) _ _ (hy.tick hi2) (by simp only; omega) ?_
                    simp only [NwO, Nw, t8b_31, h8b_31, hW3, encC, bN, lN, lg, junks, ri, rb, Int.natCast_add, Int.natCast_one, NwO, Nw, wk, vwks, vwk1, hwk, bwk, sc, scs, scEnts, lg, List.length_cons, List.length_nil, List.cons_append, List.nil_append, true_and, and_true, and_self, implies_true, eq_self, Bool.and_self, decide_true, Nat.zero_add, Nat.le_refl, Nat.reduceAdd, Nat.reduceLT, Nat.reduceLeDiff] <;> (and_intros <;> first | rfl | (intro k hk; (rcases k with _ | _ | _ | k <;> first | rfl | omega)))
          · have hk2 : (((IntKind.i64.wrap nd).tmod 3 : Int)) = 2 := q
            have hA := arrC (by decide) (by omega) hr (show 2 < 3 by decide) h0
            obtain ⟨a0, a1, a2, a3, b0, b1, b2, hN0⟩ := arrN hT' (by omega) hr (show 2 < 3 ∧ 3 ≤ 3 by decide)
            obtain ⟨f1, f2, _⟩ := hA.reply
            have f3 := hA.held
            obtain ⟨f4, f5⟩ := hA.back
            simp only [Wd.nd, cast2, Int.reduceAdd] at a0 a1 a2 a3 b0 b1 b2 hN0 f1 f2 f3 f4 f5
            have wkk : IntKind.i64.wrap 3 = 3 := by decide
            clear hE hX hF2 hA hr hI
            generalize hm : w.x2.last + 1 = m at *
            generalize hc1 : w.c.want 3 = c1 at *
            simp only [popF, pl8, ΓV3, h0', hk2, hT0, hc1, wkk, a0, a1, a2, a3, b0, b1, b2, f1, f2, f3, cK, onK, cM, decC2, ivn, lix, lof, lln, el0, el1, hd1, cellOf, lstN, lstF, nodupB, ren, rens, encC, hW3, bN, lN, decN2, lg, Cen.eta, Nod.eta, cast3, onNat, sigN, decN, encN, encN2, Nod.room, ask_word, says_word, bsl, ri, rb, renB, rens, ren, sig, subH, updH, ↓engE, drawE_mk, eng, litSt, srunA_nil, srunA_b, stepR, contB_mk, r0, r1, r2, regC, sop, unw, strip, sev, tg, tset, tput, needs, opNeeds, sBin, ibin, shiftOp, gb, gslot, gdst, onth, wants, sPick, popF, selC, exitC, sLoad, sStore, sExtract, sField, sIndex, sLen, sNew, sAlloc, sCall, sBuiltin, sUn, sConv, cellsAt, hget, hset, hd1, vcells, one, splice, holeAt, idxAt, pushAt, drawSt, preL, chkL, stp, nxtB_mk, pref_0, pref_b, allocOp, holes, lg, List.length_cons, List.length_nil, List.cons_append, List.nil_append, List.append_nil, List.map_cons, List.map_nil, List.take_succ_cons, List.take_zero, List.take_nil, List.drop_succ_cons, List.drop_zero, List.drop_nil, List.all_cons, List.all_nil, List.contains_cons, List.contains_nil, List.getElem?_cons_zero, List.getElem?_cons_succ, List.getElem?_nil, true_and, and_self, or_true, implies_true, not_false_eq_true, eq_self, ne_eq, Bool.false_eq_true, Bool.not_true, Bool.not_false, Bool.or_false, Bool.and_self, Bool.cond_false, decide_true, Nat.zero_add, Nat.add_zero, Nat.mul_one, Nat.le_refl, Option.getD_some, Option.getD_none, reduceCtorEq, Value.oneCell', ↓reduceIte, Nat.reduceAdd, Nat.reduceSub, Nat.reduceLT, Nat.reduceLeDiff, Nat.reduceBEq, Int.reduceLT, Int.reduceLE, Int.reduceEq, Int.reduceToNat, Int.reduceAdd, ti3, tk5, ts5, ta5, ti5, tk27, ta27, tk30, ts30, ta30, tk41, ts41, ta41, tz41, tr69, tk71, ta71, te71, tf75_0, tf75_1]
            refine ⟨Nat × Nod, fun x => t8b_32 nd (lT b) x.1, fun x => h8b_32 w (c1.hear 1 3 m) x.2, fun x => ArrN (lT b) m w.x2.now 2 x.1 x.2, fun x => (lT b).toNat - x.1, (0, w.x2.ask.hear 2 3 m), hN0, ⟨some [0, 1, 2, 3, 4, 5, 6, 7, 8, 9, 10, 11, 15, 13], ?_⟩, ?_⟩
            · simp only [NwO, Nw, t8b_32, h8b_32, hW3, encC, bN, lN, lg, junks, ri, rb, Int.natCast_zero, NwO, Nw, wk, renJ, renJs, mvH, hgetO, memB, posG, jp, renJB, renJEnts, vwks, vwk1, hwk, bwk, sc, scs, scEnts, lg, List.length_cons, List.length_nil, List.cons_append, List.nil_append, List.take_zero, true_and, and_true, and_self, implies_true, eq_self, Bool.and_self, decide_true, decide_false, Nat.zero_add, Nat.le_refl, reduceCtorEq, Nat.reduceAdd, Nat.reduceLT, Nat.reduceLeDiff, Nat.reduceEqDiff] <;> (and_intros <;> first | rfl | (intro k hk; (rcases k with _ | _ | _ | k <;> first | rfl | omega)))
            · rintro ⟨i2, y⟩ hy F3 hN3 hX3
              have hyh := hy.holds
              have hy1 := hy.hi
              have hy2 := hy.hT
              obtain ⟨q0, q1, q2, q3, q4⟩ := hy.ret
              simp only [cast2, Int.reduceAdd] at q1
              cases hlt2 : decide ((i2 : Int) < lT b) with
              | false =>
                rw [hlt2] at hyh
                simp only [t8b_32, h8b_32, junks, pl8, hlt2, encC, hW3, bN, lN, lg, ri, rb, eng, litSt, srunA_nil, srunA_b, stepR, contB_mk, r0, regC, sop, unw, strip, sev, tg, tset, tput, needs, opNeeds, sBin, ibin, shiftOp, selC, lg, List.cons_append, List.nil_append, true_and, and_self, or_true, eq_self, Bool.false_eq_true]
                refine hX3 _ _ _ (by simp) ?_
                simp only [popF, pl8, ΓV3, c16, hyh, cK, cM, ivn, lix, lof, lln, el0, el1, cellOf, lstF, nodupB, ren, rens, decN2, Nod.eta, onNat, allN, sigN, decN, encN, ri, rb, renB, rens, ren, sig, subH, updH, eng, litSt, srunA_nil, srunA_b, stepR, contB_mk, r0, r1, r2, regC, sop, unw, strip, sev, tg, tset, tput, needs, opNeeds, gb, gslot, gdst, onth, wants, sPick, popF, exitC, sCall, sUn, hget, hset, List.length_cons, List.length_nil, List.append_nil, List.map_cons, List.map_nil, List.contains_cons, List.contains_nil, List.getElem?_cons_zero, List.getElem?_cons_succ, true_and, and_self, implies_true, eq_self, Bool.true_eq_false, Bool.not_false, Bool.or_false, Bool.and_self, Bool.cond_true, Nat.zero_add, Nat.add_zero, Option.getD_some, ↓reduceIte, Nat.reduceAdd, Nat.reduceSub, Nat.reduceLT, Nat.reduceBEq]
                exact hF _ _ _ ⟨trivial, by simp only [Try.f8, rb, retP, sResults, sRes1, resK, retV, vwk, vwk1, hwk, sc, tg, List.length_nil, and_self, eq_self, Nat.le_refl]⟩
              | true =>
                rw [hlt2] at hyh
                have hi2 : (i2 : Int) < lT b := of_decide_eq_true hlt2
                have hw2 : IntKind.i64.wrap ((i2 : Int) + 1) = i2 + 1 := wrap1 (by omega) (by omega)
                cases hh : decide ((i2 : Int) = IntKind.i64.wrap ((lT b).tdiv 2)) && decide (128 ≤ IntKind.i64.wrap nd) with
                | true =>
                  rw [Bool.and_eq_true] at hh
                  simp only [t8b_32, h8b_32, junks, pl8, ΓV3, c16, hlt2, hyh, hh.1, hh.2, q0, q1, q2, q3, q4, f4, f5, cK, onK, cM, decC2, ivn, lix, lof, lln, el0, el1, hd1, cellOf, lstN, lstF, nodupB, ren, rens, encC, hW3, bN, lN, decN2, lg, Cen.eta, Nod.eta, onNat, allN, sigN, decN, encN, ret_word, says_word, bsl, ri, rb, renB, rens, ren, sig, subH, updH, eng, litSt, srunA_nil, srunA_b, stepR, contB_mk, r0, r1, r2, regC, sop, unw, strip, sev, tg, tset, tput, needs, opNeeds, sBin, ibin, shiftOp, gb, gslot, gdst, onth, wants, sPick, selC, sLoad, sStore, sExtract, sField, sNew, sAlloc, sCall, sUn, sConv, cellsAt, hget, hset, hd1, vcells, one, splice, holeAt, idxAt, pushAt, lg, List.length_cons, List.length_nil, List.cons_append, List.nil_append, List.append_nil, List.map_cons, List.map_nil, List.take_succ_cons, List.take_zero, List.take_nil, List.drop_succ_cons, List.drop_zero, List.drop_nil, List.all_cons, List.all_nil, List.contains_cons, List.contains_nil, List.getElem?_cons_zero, List.getElem?_cons_succ, true_and, and_self, or_true, implies_true, not_false_eq_true, eq_self, ne_eq, Bool.true_eq_false, Bool.false_eq_true, Bool.not_true, Bool.not_false, Bool.or_false, Bool.and_self, Bool.cond_true, decide_true, Nat.zero_add, Nat.add_zero, Nat.le_refl, Option.getD_some, reduceCtorEq, Value.oneCell', ↓reduceIte, Nat.reduceAdd, Nat.reduceSub, Nat.reduceLT, Nat.reduceLeDiff, Nat.reduceBEq, Int.reduceEq, ti3, ti5, tk27, ta27, tk41, ts41, ta41, tz41, tf75_0]
                  refine hX3 _ _ _ (by simp) ?_
                  simp only [popF, eng, popF]
                  exact hF _ _ _ ⟨trivial, by simp only [Try.f8, rb, retP, sResults, sRes1, resK, retV, vwk, vwk1, hwk, sc, tg, List.length_nil, and_self, eq_self, Nat.le_refl]⟩
                | false =>
                  cases hh1 : decide ((i2 : Int) = IntKind.i64.wrap ((lT b).tdiv 2)) with
                  | true =>
                    cases hh2 : decide (128 ≤ IntKind.i64.wrap nd) with
                    | true => rw [hh1, hh2] at hh; cases hh
                    | false =>
                      simp only [t8b_32, h8b_32, junks, pl8, ΓV3, hlt2, hyh, hh1, hh2, hw2, cK, cM, ivn, lix, lof, lln, el0, el1, cellOf, lstF, nodupB, ren, rens, encC, hW3, bN, lN, decN2, lg, Nod.eta, onNat, allN, sigN, decN, encN, ri, rb, renB, rens, ren, sig, subH, updH, eng, litSt, srunA_nil, srunA_b, stepR, contB_mk, r0, r1, r2, regC, sop, unw, strip, sev, tg, tset, tput, needs, opNeeds, sBin, ibin, shiftOp, gb, gslot, gdst, onth, wants, sPick, selC, sCall, sUn, sConv, hget, hset, lg, List.length_cons, List.length_nil, List.cons_append, List.nil_append, List.append_nil, List.map_cons, List.map_nil, List.contains_cons, List.contains_nil, List.getElem?_cons_zero, List.getElem?_cons_succ, true_and, and_self, or_true, implies_true, not_false_eq_true, eq_self, ne_eq, Bool.true_eq_false, Bool.false_eq_true, Bool.not_true, Bool.not_false, Bool.or_false, Bool.and_self, Bool.cond_true, Nat.zero_add, Nat.add_zero, Option.getD_some, ↓reduceIte, Nat.reduceAdd, Nat.reduceSub, Nat.reduceLT, Nat.reduceBEq, Int.reduceEq, ti3, ti5]
                      refine hN3 none (i2 + 1, y.tk) _ _ (hy.tick hi2) (by simp only; omega) ?_
                      simp only [NwO, Nw, t8b_32, h8b_32, hW3, encC, bN, lN, lg, junks, ri, rb, Int.natCast_add, Int.natCast_one, NwO, Nw, wk, vwks, vwk1, hwk, bwk, sc, scs, scEnts, lg, List.length_cons, List.length_nil, List.cons_append, List.nil_append, true_and, and_true, and_self, implies_true, eq_self, Bool.and_self, decide_true, Nat.zero_add, Nat.le_refl, Nat.reduceAdd, Nat.reduceLT, Nat.reduceLeDiff] <;> (and_intros <;> first | rfl | (intro k hk; (rcases k with _ | _ | _ | k <;> first | rfl | omega)))
                  | false =>
                    simp only [t8b_32, h8b_32, junks, pl8, ΓV3, hlt2, hyh, hh1, hw2, cK, cM, ivn, lix, lof, lln, el0, el1, cellOf, lstF, nodupB, ren, rens, encC, hW3, bN, lN, decN2, lg, Nod.eta, onNat, allN, sigN, decN, encN, ri, rb, renB, rens, ren, sig, subH, updH, eng, litSt, srunA_nil, srunA_b, stepR, contB_mk, r0, r1, r2, regC, sop, unw, strip, sev, tg, tset, tput, needs, opNeeds, sBin, ibin, shiftOp, gb, gslot, gdst, onth, wants, sPick, selC, sCall, sUn, sConv, hget, hset, lg, List.length_cons, List.length_nil, List.cons_append, List.nil_append, List.append_nil, List.map_cons, List.map_nil, List.contains_cons, List.contains_nil, List.getElem?_cons_zero, List.getElem?_cons_succ, true_and, and_self, or_true, implies_true, imp_self, not_false_eq_true, eq_self, ne_eq, Bool.false_eq_true, Bool.not_true, Bool.not_false, Bool.or_false, Bool.and_self, Bool.cond_false, Nat.zero_add, Nat.add_zero, Option.getD_some, ↓reduceIte, Nat.reduceAdd, Nat.reduceSub, Nat.reduceLT, Nat.reduceBEq, Int.reduceEq, ti3, ti5]
                    refine hN3 none (i2 + 1, y.tk) _ _ (hy.tick hi2) (by simp only; omega) ?_
                    simp only [NwO, Nw, t8b_32, h8b_32, hW3, encC, bN, lN, lg, junks, ri, rb, Int.natCast_add, Int.natCast_one, NwO, Nw, wk, vwks, vwk1, hwk, bwk, sc, scs, scEnts, lg, List.length_cons, List.length_nil, List.cons_append, List.nil_append, true_and, and_true, and_self, implies_true, eq_self, Bool.and_self, decide_true, Nat.zero_add, Nat.le_refl, Nat.reduceAdd, Nat.reduceLT, Nat.reduceLeDiff] <;> (and_intros <;> first | rfl | (intro k hk; (rcases k with _ | _ | _ | k <;> first | rfl | omega)))
      | true =>
        have hil : i < n := by simp at hlt; omega
        obtain ⟨bb, o, rfl, hcell⟩ := hE.1 (by omega)
        obtain ⟨c0, c1⟩ := hcell i hil
        have hby := hE.2 i hil
        have hlt' : ((i : Int) < n) = True := by simp; omega
        have hw : IntKind.i64.wrap ((i : Int) + 1) = i + 1 := wrap1 (by omega) (by omega)
        have r := hr.step (by decide) hT' hS (by omega) (what := e0 i) hby.1
        have hfit : Fit 3 w = True := eq_true (hr.fit (by decide) hT' hS (by omega))
        have hb0 : (0 ≤ e1 i) = True := eq_true hby.1
        have hb1 : (e1 i < 256) = True := eq_true hby.2
        have hdn := hr.rest
        simp only [t8_3, h8_3, junks, pl8, ΓV3, onHap3, preHap3, decV3, hU0_3, tU3, lS, eWs, decC2, ivn, lof, lln, el0, el1, el2, hd1, cellOf, lstN, lstF, encC, eW, hW3, bN, lN, decN2, lg, Cen.eta, Nod.eta, etaL3 w, hlt', c0, c1, hw, hfit, hb0, hb1, ri, rb, ↓engE, drawE_mk, eng, litSt, srunA_nil, srunA_b, stepR, contB_mk, r0, r1, r2, regC, sop, unw, strip, sev, tg, tset, tput, needs, opNeeds, sBin, ibin, shiftOp, gb, gslot, gdst, onth, wants, sPick, selC, sLoad, sStore, sExtract, sIndex, sLen, sCall, sBuiltin, cellsAt, roCells, hget, hset, hd1, vcells, one, splice, drawSt, preL, chkL, stp, nxtB_mk, pref_0, pref_b, allocOp, holes, lg, List.length_cons, List.length_nil, List.cons_append, List.nil_append, List.append_nil, List.map_cons, List.map_nil, List.take_succ_cons, List.take_zero, List.take_nil, List.drop_succ_cons, List.drop_zero, List.drop_nil, List.all_cons, List.all_nil, List.getElem?_cons_zero, List.getElem?_cons_succ, true_and, and_self, or_true, implies_true, eq_self, Bool.true_eq_false, Bool.false_eq_true, Bool.and_self, Bool.cond_true, decide_true, Nat.zero_add, Nat.le_refl, Int.toNat_natCast, Int.natCast_nonneg, Option.getD_some, Option.isSome_some, Value.oneCell', ↓reduceIte, Nat.reduceAdd, te70, tk75, ts75, ta75, tk80, ts80, ta80]
        refine hN (some [0, 1, 2, 3, 15, 5, 6, 7, 16, 9, 17, 11, 18, 13, 14]) (i + 1, w.step 3 (e0 i) (e1 i)) _ _ ⟨by simp only; omega, r⟩ (by simp only; omega) ?_
        simp only [NwO, Nw, t8_3, h8_3, hW3, encC, bN, lN, lg, junks, ri, rb, Int.natCast_add, Int.natCast_one, NwO, Nw, wk, renJ, renJs, mvH, hgetO, memB, posG, jp, renJB, renJEnts, vwks, vwk1, hwk, bwk, sc, scs, scEnts, lg, List.length_cons, List.length_nil, List.cons_append, List.nil_append, List.take_zero, true_and, and_true, and_self, implies_true, eq_self, Bool.and_self, decide_true, decide_false, Nat.zero_add, Nat.le_refl, reduceCtorEq, Nat.reduceAdd, Nat.reduceLT, Nat.reduceLeDiff, Nat.reduceEqDiff] <;> (and_intros <;> first | rfl | (intro k hk; (rcases k with _ | _ | _ | k <;> first | rfl | omega)))
end Go.Proofs.Ytmnpnnegnlhemaa.Eng
namespace Go.Proofs.Ytmnpnnegnlhemaa.Eng
open Go

theorem ok8 (E : Addr → Option Value) (a b c nd : Int) (aa : Option Addr) (n cap : Nat) (e0 e1 : Nat → Int) (hE : Evts E aa n e0 e1) (ha : 0 ≤ a ∧ a < 256) (hb : 0 ≤ b ∧ b < 256) (hc : 0 ≤ c ∧ c < 256) (hnd : 0 ≤ nd ∧ nd < 256) :
    Ok Try.prog E 8 [.agg [.raw (.int .u8 a), .raw (.int .u8 b), .raw (.int .u8 c)], .raw (.slice aa n cap), .raw (.int .u8 nd)] [] (rb true) [] := by
  rcases three ha with h | h | h
  · exact ok8_1 E a b c nd aa n cap e0 e1 hE h hb hc hnd
  · exact ok8_2 E a b c nd aa n cap e0 e1 hE h hb hc hnd
  · exact ok8_3 E a b c nd aa n cap e0 e1 hE h hb hc hnd
end Go.Proofs.Ytmnpnnegnlhemaa.Eng
namespace Go.Proofs.Ytmnpnnegnlhemaa.Eng
open Go Go.ChangeShapes Go.WideShapes Go.ChangeAt Go.RowKit

theorem own8 : ownKnob Try.prog.godebug = none := by kernel_rfl
theorem laidOut8 : laidOutB Try.prog = true := by kernel_rfl

set_option maxRecDepth 100000 in
theorem opened8 {W : World} {base : Nat} {H : Type} {enc : TypeId × Value → H} {args : Array Value} {ds : List (DataW H)} {p : List MemPlace}
    (hval : ∀ (j : Nat) t v, Try.f8.params[j]? = some t → args[j]? = some v → Value.okWide Try.prog W .any base t v)
    (hA : DataW.TrodAll enc Try.prog W 0 (fun _ => true) true Try.f8.params.toList args.toList ds p) :
    ∃ (svs : List SV) (H' : List AB), RL R0 svs args.toList ∧ Ok Try.prog W.cell? 8 svs [] (.raw (.bool true)) H' := by
  rw [Try.params8] at hA hval
  obtain ⟨v0, vs0, d0, ds0, p0, q0, hargs, rfl, rfl, h0, r0⟩ := trodAll_cons hA
  obtain ⟨v1, vs1, d1, ds1, p1, q1, rfl, rfl, rfl, h1, r1⟩ := trodAll_cons r0
  obtain ⟨v2, vs2, d2, ds2, p2, q2, rfl, rfl, rfl, h2, r2⟩ := trodAll_cons r1
  obtain ⟨rfl, rfl, rfl⟩ := trodAll_nil r2
  obtain rfl : args = #[v0, v1, v2] := by cases args; simp_all
  clear hargs
  obtain ⟨cs, rfl, f⟩ := open_agg (n := 4) (ks := [.u8, .u8, .u8]) (by kernel_rfl) (by kernel_rfl) (hval 0 69 v0 rfl rfl) h0
  obtain ⟨x, l1, e1, w1, f⟩ := f.cons
  obtain ⟨y, l2, rfl, w2, f⟩ := f.cons
  obtain ⟨z, l3, rfl, w3, f⟩ := f.cons
  obtain rfl := f.nil
  obtain ⟨aa, n, cap, e0, e1', rfl, hev⟩ := evts_open h1 (okWide_slice Try.underlying70 (hval 1 70 v1 rfl rfl))
  obtain ⟨k, rfl, _, _, wk⟩ := open_int Try.underlying5 (hval 2 5 v2 rfl rfl) h2
  exact ⟨[.agg [.raw (.int .u8 x), .raw (.int .u8 y), .raw (.int .u8 z)], .raw (.slice aa n cap), .raw (.int .u8 k)], [], RL_two (R_agg0 e1) (RL_two (R_raw0 _) (RL_one (R_raw0 _))), ok8 _ x y z k aa n cap e0 e1' hev (u8_wf w1) (u8_wf w2) (u8_wf w3) (u8_wf wk)⟩

set_option maxRecDepth 100000 in
theorem lifted8 (os : Os) (started : os.Started) (H : Type) (enc : TypeId × Value → H) :
    ReturnsInHanded {} Try.checked os 8 .any (Rows.commandArrivesSpec.pre6 enc Try.prog Try.f8 Rows.commandArrivesRow.domain false) (Rows.commandArrivesSpec.post enc Try.prog Try.f8 false true false false) := by
  refine returnsInHanded_of_change_sized (C := Try.checked) own8 started (by kernel_rfl) Try.func8
    (ChangeSpec.witness6 (enc := enc) (C := Try.checked) false ⟨#[], #[.agg #[.int .u8 0, .int .u8 0, .int .u8 0], .slice none 0 0, .int .u8 0], []⟩ 8 (by kernel_rfl) (by kernel_rfl) (by kernel_rfl) (by kernel_rfl)) ?_
  intro W base args ds gs before hval hW hcnd0 hsz0 _
  have hW' := hW
  have hlt : ∀ x ∈ before, x.block < W.heap.size := fun x hx => hW.lt x hx
  obtain ⟨p, q, hA, hV, rfl, hfz, hnd⟩ := hW
  obtain ⟨svs, H', hr, hok⟩ := opened8 hval hA
  have hA0 : DataW.TrodAll enc Try.prog W 0 (fun _ => true) true Try.f8.params.toList args.toList ds p := hA
  obtain ⟨rfl, rfl⟩ := trodVars_none hV
  refine (calls_of_ok hr hok).mono fun e W' ⟨he, bel⟩ => ?_
  subst he
  have hback := trodAll_below laidOut8 bel (by
    intro t ht
    rw [Try.params8] at ht
    revert t
    simp only [List.forall_mem_cons, List.not_mem_nil, false_imp_iff, implies_true, and_true]
    exact ⟨⟨by kernel_rfl, of_decide_eq_true (by kernel_rfl)⟩, ⟨by kernel_rfl, of_decide_eq_true (by kernel_rfl)⟩, ⟨by kernel_rfl, of_decide_eq_true (by kernel_rfl)⟩⟩) hA0 (fun x hx => hlt x (by simp [hx]))
  rw [Try.params8] at hA0
  obtain ⟨_, _, d0, ds0, _, _, _, rfl, _, _, r0⟩ := trodAll_cons hA0
  obtain ⟨_, _, d1, ds1, _, _, _, rfl, _, _, r1⟩ := trodAll_cons r0
  obtain ⟨_, _, d2, ds2, _, _, _, rfl, _, _, r2⟩ := trodAll_cons r1
  obtain ⟨_, rfl, _⟩ := trodAll_nil r2
  exact ⟨_, rfl, _, [], _, [], p, [], hW', trodAll_mk1 (shut_bool Try.underlying4 _), hback, rfl, bel.frame _, fun h => by cases h⟩

theorem commandArrives_over : Rows.commandArrivesRow.holds Try.pinned (OpenSpec.ofChange Rows.commandArrivesSpec) :=
  OpenClaim.holds_of_wide 8 Try.f8 rfl rfl rfl rfl rfl rfl rfl ⟨rfl, rfl, rfl, rfl, rfl⟩ rfl rfl rfl rfl rfl (by kernel_rfl) Try.func8 (by kernel_rfl)
    (of_decide_eq_true (by kernel_rfl)) (by unfold Func.isWrapper; first | (rw [if_pos (by decide +kernel)]; kernel_rfl) | (rw [if_neg (by decide +kernel)]; exact ⟨rfl, rfl⟩))
    (fun os started H enc _ => lifted8 os started H enc)
end Go.Proofs.Ytmnpnnegnlhemaa.Eng
namespace Go.Proofs.Ytmnpnnegnlhemaa
/-- The given statement. -/
theorem commandArrives_holds : Rows.CommandArrivesSaid := Eng.commandArrives_over
#print axioms commandArrives_holds
end Go.Proofs.Ytmnpnnegnlhemaa
