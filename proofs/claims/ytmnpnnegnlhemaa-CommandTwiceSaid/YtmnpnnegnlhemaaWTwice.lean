/- The law CommandTwice is true of the given program at every input: the engine's contract of the law's function, lifted to the given row. No condition. -/
import Derived.Test.YtmnpnnegnlhemaaGd
import Derived.Test.YtmnpnnegnlhemaaGc
import Derived.Test.YtmnpnnegnlhemaaGe
import Derived.Test.YtmnpnnegnlhemaaGf
import Derived.Test.YtmnpnnegnlhemaaRows
import Derived.Test.YtmnpnnegnlhemaaGb
namespace Go.Proofs.Ytmnpnnegnlhemaa.Eng
open Go

theorem wait_small {T S : Int} (hT : 1 ≤ T ∧ T ≤ 12) (hS : 0 ≤ S ∧ S ≤ 1000) : wait T S ≤ 100 := by
  have h2 := Int.mul_le_mul hT.2 (show 1000 + S ≤ 2000 by omega) (by omega) (by decide)
  unfold wait
  generalize hq : T * (1000 + S) = q at *
  omega
/-- What holds behind j ticks of the centre. -/
structure BackI (W : Int) (j : Nat) (c : Cen) : Prop where
  le : (j : Int) ≤ W
  wait : c.wait = W
  since0 : 0 ≤ c.since
  since : c.since ≤ c.now
  now : c.now ≤ 1000000 + j
  gone : c.node ≠ 0 → c.since + j ≤ c.now ∧ (1 ≤ j → c.now < c.since + W)
theorem Run.back0 {p : Nat} {T S : Int} {t : Nat} {w : Wd} (h : Run p T S t w) (ht : (t : Int) ≤ 1000000 := by omega) (hW : 0 ≤ Eng.wait T S := by omega) : BackI (Eng.wait T S) 0 w.c :=
  ⟨by omega, h.base.wait, h.base.since0, h.base.since, by have := h.base.now; omega, fun _ => ⟨by have := h.base.since; omega, fun q => absurd q (by decide)⟩⟩
theorem BackI.full {W : Int} {j : Nat} {c : Cen} (h : BackI W j c) (hW : 1 ≤ W) (hj : decide ((j : Int) < W) = false) : c.holds = true := by
  have h1 := h.le
  have h2 := h.gone
  have hj' : ¬ (j : Int) < W := of_decide_eq_false hj
  unfold Cen.holds
  rw [decide_eq_true_eq]
  by_cases q : c.node = 0
  · exact q
  · obtain ⟨q1, q2⟩ := h2 q
    have := q2 (by omega)
    omega
theorem BackI.tick {W : Int} {j : Nat} {c : Cen} (h : BackI W j c) (hW : 1 ≤ W ∧ W ≤ 1000000) (hj : (j : Int) < W) : BackI W (j + 1) c.tick := by
  obtain ⟨h1, h2, h3, h4, h5, h6⟩ := h
  have e1 : IntKind.i64.wrap (c.now + 1) = c.now + 1 := w64 (by omega) (by omega)
  have e2 : IntKind.i64.wrap (c.since + c.wait) = c.since + W := by rw [h2]; exact w64 (by omega) (by omega)
  unfold Cen.tick
  cases ho : c.out with
  | true =>
    simp only [if_true]
    refine ⟨by omega, h2, Int.le_refl _, ?_, ?_, fun q => absurd rfl q⟩
    · show (0 : Int) ≤ IntKind.i64.wrap (c.now + 1); rw [e1]; omega
    · show IntKind.i64.wrap (c.now + 1) ≤ _; rw [e1]; omega
  | false =>
    simp only [Bool.false_eq_true, if_false]
    refine ⟨by omega, h2, h3, ?_, ?_, fun q => ?_⟩
    · show c.since ≤ IntKind.i64.wrap (c.now + 1); rw [e1]; omega
    · show IntKind.i64.wrap (c.now + 1) ≤ _; rw [e1]; omega
    · have q' : c.node ≠ 0 := q
      have := h6 q'
      unfold Cen.out at ho
      rw [e1, e2] at ho
      have hn : decide (c.node = 0) = false := decide_eq_false q'
      rw [hn] at ho
      have ho' : ¬ c.since + W ≤ c.now + 1 := by simpa using ho
      refine ⟨?_, fun _ => ?_⟩
      · show c.since + ((j + 1 : Nat) : Int) ≤ IntKind.i64.wrap (c.now + 1); rw [e1]; omega
      · show IntKind.i64.wrap (c.now + 1) < c.since + W; rw [e1]; omega
end Go.Proofs.Ytmnpnnegnlhemaa.Eng
namespace Go.Proofs.Ytmnpnnegnlhemaa.Eng
open Go
def pl43 : Nat → Plan
  | _ => []

def csOf : AB → List SV
  | .cells cs _ => cs
  | _ => []
theorem hear_en (x : Nod) (a n m : Int) : x.en ≤ (x.hear a n m).en := by
  unfold Nod.hear
  cases x.gets a n m with
  | true => show x.en ≤ max x.en _; omega
  | false => exact Int.le_refl _
theorem ask_en (x : Nod) : x.ask.en = x.en := by
  unfold Nod.ask
  cases x.full <;> rfl

/-- A node's end falls just by Return and Break. -/
theorem step_en {p : Nat} {T S W t : Int} {w : Wd} (hp : 1 ≤ p ∧ p ≤ 3) (b : Base p T S W t w) {what num : Int} (hn : 0 ≤ num) {i : Nat} (hi : i < p) : (w.nd i).en ≤ ((w.step p what num).nd i).en ∨ what = 2 ∨ what = 3 := by
  have hk : (num.tmod p).toNat < p := by have := tmod_lt hn (show (0 : Int) < p by omega); omega
  have hset : ∀ (w' : Wd), (∀ j, w'.nd j = w.nd j) → ∀ k x, k < p → (w.nd k).en ≤ x.en → (w.nd i).en ≤ ((w'.setN k x).nd i).en := fun w' hw k x hk hx => by
    rw [nd_setN w' (by omega) (by omega)]
    split
    · rename_i e; rw [e]; exact hx
    · rw [hw]; exact Int.le_refl _
  unfold Wd.step
  simp only
  cases h1 : decide (what = 1) with
  | true =>
    left
    simp only [Wd.askN, nd_push]
    exact hset w (fun _ => rfl) _ _ hk (by rw [ask_en]; exact Int.le_refl _)
  | false =>
    cases h2 : decide (what = 2) with
    | true => right; left; exact of_decide_eq_true h2
    | false =>
      cases h3 : decide (what = 3) with
      | true => right; right; exact of_decide_eq_true h3
      | false =>
        left
        cases decide (what = 4) with
        | true => exact Int.le_refl _
        | false =>
          cases decide (what = 5) with
          | true => exact Int.le_refl _
          | false =>
            cases decide (what = 6) with
            | true =>
              cases hs : decide (w.sl = 0) with
              | true => exact Int.le_refl _
              | false =>
                have hs' : w.sl ≠ 0 := by simpa using hs
                have hj : (num.tmod w.sl).toNat < w.sl := by have := tmod_lt hn (show (0 : Int) < w.sl by omega); omega
                obtain ⟨s1, s2, s3, s4⟩ := b.sent _ hj
                cases decide (w.sk (num.tmod w.sl).toNat = 2) with
                | true => exact hset w (fun _ => rfl) _ _ (by omega) (hear_en _ _ _ _)
                | false =>
                  simp only [Wd.hearC]
                  cases w.c.reply (w.sk (num.tmod w.sl).toNat) (w.sn (num.tmod w.sl).toNat) (w.sm (num.tmod w.sl).toNat) with
                  | true => simp only [nd_push]; exact Int.le_refl _
                  | false => exact Int.le_refl _
            | false =>
              cases decide (what = 7) with
              | true => cases w.may p <;> exact Int.le_refl _
              | false =>
                simp only [Wd.tickN]
                rw [nd_setN _ (by omega) (by omega)]
                split
                · rename_i e; rw [e]; exact Int.le_refl _
                · exact Int.le_refl _

/-- Two tests of the law, as it makes them. -/
theorem two_tests {p : Nat} {T S t : Int} {w : Wd} (hp : 1 ≤ p ∧ p ≤ 3) (hT : 1 ≤ T ∧ T ≤ 12) (ht : t ≤ 1000) {what num : Int} (hn : 0 ≤ num) (h : Run p T S t w) (r : Run p T S (t + 1) (w.step p what num)) {i : Nat} (hi : i < p) :
    decide (IntKind.i64.wrap (((w.step p what num).nd i).now + T) < ((w.step p what num).nd i).en) = false ∧
    (decide (((w.step p what num).nd i).en < (w.nd i).en) = false ∨ decide (what = 2) = true ∨ decide (what = 3) = true) := by
  have x := r.base.nod i hi
  have n0 := x.now0
  have n1 := x.now
  have n2 := x.en
  refine ⟨?_, ?_⟩
  · rw [w64 (by omega) (by omega)]
    simp
    omega
  · rcases step_en hp h.base hn hi (what := what) with q | q | q
    · left; simp; omega
    · right; left; simpa using q
    · right; right; simpa using q

/-- A word that node k sent or shall hear is heard. -/
def Wd.again (k : Nat) (a n m : Int) (w : Wd) : Wd := match decide (a = 2) with
  | true => w.setN k ((w.nd k).hear a n m)
  | false => { w with c := w.c.hear a n m }
/-- The node ticks, the centre ticks, the node asks. -/
def Wd.round (k : Nat) (w : Wd) : Wd := { w.setN k (w.nd k).tk.ask with c := w.c.tick }

/-- What holds behind j rounds behind the word. -/
structure TwI (p k : Nat) (T a m : Int) (j : Nat) (w : Wd) : Prop where
  hk : k < p ∧ p ≤ 3
  hT : 1 ≤ T ∧ T ≤ 12
  hj : j ≤ 5
  nod : NInv T (1000 + 2 * j) (w.nd k) k
  n : w.c.n = p + 1
  a3 : 1 ≤ a ∧ a ≤ 3
  m0 : 1 ≤ m ∧ m ≤ 2000
  two : a = 2 → m ≤ (w.nd k).last ∧ ∀ i, i < (w.nd k).len → (w.nd k).an ((w.nd k).off + i) ≠ m
  not2 : a ≠ 2 → m ≤ w.c.gr (k + 1) ∧ (a = 3 → w.c.node = k + 1 → m < w.c.number)

theorem TwI.valid {p k : Nat} {T a m : Int} {j : Nat} {w : Wd} (h : TwI p k T a m j w) : Eng.valid a (k + 1) m = true ∧ decide ((w.c.n : Int) ≤ (k : Int) + 1) = false := by
  have h1 := h.hk
  have h2 := h.a3
  have h3 := h.m0
  refine ⟨?_, ?_⟩
  · unfold Eng.valid; simp; omega
  · rw [h.n]; simp; omega

theorem nd_again (w : Wd) {k : Nat} (hk : k < 3) (a n m : Int) : (w.again k a n m).nd k = (match decide (a = 2) with | true => (w.nd k).hear a n m | false => w.nd k) ∧ (w.again k a n m).c = (match decide (a = 2) with | true => w.c | false => w.c.hear a n m) := by
  unfold Wd.again
  cases decide (a = 2) with
  | true => exact ⟨by rw [nd_setN w hk hk]; simp, (setN_rest w k _).1⟩
  | false => exact ⟨rfl, rfl⟩

theorem ask_cases (c : Cen) (n m : Int) : (c.ask n m).n = c.n ∧ m ≤ (c.ask n m).gr n.toNat := by
  unfold Cen.ask
  cases h : decide (m ≤ c.gr n.toNat) with
  | true => simp only [if_true]; exact ⟨trivial, of_decide_eq_true h⟩
  | false =>
    cases c.gives n <;> simp [upd]
theorem back_cases (c : Cen) (n m : Int) (h0 : n ≠ 0) : (c.back n m).n = c.n ∧ m ≤ (c.back n m).gr n.toNat ∧ ((c.back n m).node = n → m < (c.back n m).number) := by
  unfold Cen.back
  cases h : c.drops n m with
  | true =>
    simp only [if_true]
    refine ⟨trivial, ?_, fun q => absurd q.symm h0⟩
    simp [upd]
    omega
  | false =>
    simp only [Bool.false_eq_true, if_false]
    refine ⟨trivial, ?_, fun q => ?_⟩
    · simp [upd]; omega
    · unfold Cen.drops at h
      rw [q] at h
      simp at h
      omega
theorem again_rest (w : Wd) {k i : Nat} (hk : k < i ∧ i < 3) (a n m : Int) : (w.again k a n m).nd i = w.nd i := by
  unfold Wd.again
  cases decide (a = 2) with
  | true => simp only; rw [nd_setN w (by omega) hk.2, if_neg (by omega)]
  | false => rfl
theorem again_sl (w : Wd) (k : Nat) (a n m : Int) : (w.again k a n m).sl = w.sl := by
  unfold Wd.again
  cases decide (a = 2) with
  | true => exact (setN_rest w k _).2.1
  | false => rfl
theorem again_slow (w : Wd) (k : Nat) (a n m : Int) : (w.again k a n m).slow = w.slow := by
  unfold Wd.again
  cases decide (a = 2) with
  | true => exact (setN_rest w k _).2.2.2.2.2.2.2
  | false => rfl
theorem round_rest (w : Wd) {k i : Nat} (hk : k < i ∧ i < 3) : (w.round k).nd i = w.nd i := by
  show (w.setN k (w.nd k).tk.ask).nd i = _
  rw [nd_setN w (by omega) hk.2, if_neg (by omega)]

theorem twice0 {p : Nat} {T S t : Int} {w : Wd} (hp : 1 ≤ p ∧ p ≤ 3) (hT : 1 ≤ T ∧ T ≤ 12) (ht : t ≤ 1000) (h : Run p T S t w) {j : Nat} (hj : j < w.sl) {k : Nat} (hn : w.sn j = k + 1) :
    TwI p k T (w.sk j) (w.sm j) 0 (w.again k (w.sk j) (k + 1) (w.sm j)) ∧ (w.nd k).len ≤ 1000000 := by
  have ht' : t ≤ 1000000 := by omega
  obtain ⟨s1, s2, s3, s4⟩ := h.base.sent j hj
  have hk : k < p := by omega
  have hk0 : (w.sn j - 1).toNat = k := by omega
  rw [hk0] at s4
  have hx := h.base.nod k hk
  have hl := hx.last
  have hlen := hx.len
  have hg := h.base.gr k hk
  obtain ⟨e1, e2⟩ := nd_again w (show k < 3 by omega) (w.sk j) (k + 1) (w.sm j)
  have hv := valid_of hp.2 ht' h.base hj
  rw [hn] at hv
  refine ⟨?_, by omega⟩
  by_cases q : w.sk j = 2
  · have hd : decide (w.sk j = 2) = true := by simpa using q
    rw [hd] at e1 e2
    obtain ⟨_, e3⟩ := hear_plain (show 0 ≤ T ∧ T ≤ 1000000 by omega) ht' hx hv rfl q
    refine ⟨⟨hk, hp.2⟩, hT, by omega, ?_, by rw [e2]; exact h.base.n, s1, by omega, fun _ => ?_, fun q' => absurd q q'⟩
    · rw [e1]
      exact (hx.hear (by omega) ht' hv rfl q).mono (by omega)
    · rw [e1]
      rcases e3 with ⟨e, ne⟩ | ⟨i0, i1, i2, e⟩
      · rw [e]; exact ⟨s4, ne⟩
      · rw [e]
        refine ⟨s4, fun i hi => ?_⟩
        have := hx.rise i0 (i0 + 1 + i) (by omega) (by simp only at hi; omega)
        show (w.nd k).an ((w.nd k).off + (i0 + 1) + i) ≠ _
        rw [i2] at this
        rw [show (w.nd k).off + (i0 + 1) + i = (w.nd k).off + (i0 + 1 + i) by omega]
        omega
  · have hd : decide (w.sk j = 2) = false := by simpa using q
    rw [hd] at e1 e2
    refine ⟨⟨hk, hp.2⟩, hT, by omega, ?_, ?_, s1, by omega, fun q' => absurd q' q, fun _ => ?_⟩
    · rw [e1]; exact hx.mono (by omega)
    · rw [e2]
      rcases (show w.sk j = 1 ∨ w.sk j = 3 by omega) with q1 | q1
      · have := (cen_ask hp.2 ht' h.base hj q1).2.1
        rw [hn] at this
        rw [this]
        rw [(ask_cases _ _ _).1]; exact h.base.n
      · have := (cen_back hp.2 ht' h.base hj q1).2.1
        rw [hn] at this
        rw [this]
        rw [(back_cases _ _ _ (by omega)).1]; exact h.base.n
    · rw [e2]
      have kk : ((k : Int) + 1).toNat = k + 1 := by omega
      rcases (show w.sk j = 1 ∨ w.sk j = 3 by omega) with q1 | q1
      · have := (cen_ask hp.2 ht' h.base hj q1).2.1
        rw [hn] at this
        rw [this]
        have hc := (ask_cases w.c ((k : Int) + 1) (w.sm j)).2
        rw [kk] at hc
        exact ⟨hc, fun q3 => by omega⟩
      · have := (cen_back hp.2 ht' h.base hj q1).2.1
        rw [hn] at this
        rw [this]
        have hc := (back_cases w.c ((k : Int) + 1) (w.sm j) (by omega)).2
        rw [kk] at hc
        exact ⟨hc.1, fun _ => hc.2⟩

theorem TwI.step {p k : Nat} {T a m : Int} {j : Nat} {w : Wd} (h : TwI p k T a m j w) (hj : j < 5) : TwI p k T a m (j + 1) (w.round k) := by
  have k3 : k < 3 := by have := h.hk; omega
  have hb : (1000 : Int) + 2 * j ≤ 1000000 := by omega
  obtain ⟨x1, x2⟩ := h.nod.tk hb
  have x3 := x1.asked (by omega)
  have en : (w.round k).nd k = (w.nd k).tk.ask := by
    show (w.setN k (w.nd k).tk.ask).nd k = _
    rw [nd_setN w k3 k3]; simp
  have ec : (w.round k).c = w.c.tick := rfl
  have tn : w.c.tick.n = w.c.n ∧ w.c.tick.gr = w.c.gr ∧ (w.c.tick.node = w.c.node ∧ w.c.tick.number = w.c.number ∨ w.c.tick.node = 0) := by
    unfold Cen.tick
    split
    · exact ⟨rfl, rfl, .inr rfl⟩
    · exact ⟨rfl, rfl, .inl ⟨rfl, rfl⟩⟩
  refine ⟨h.hk, h.hT, by omega, ?_, by rw [ec, tn.1]; exact h.n, h.a3, h.m0, fun q => ?_, fun q => ?_⟩
  · rw [en]
    exact x3.mono (by omega)
  · obtain ⟨t1, t2⟩ := h.two q
    obtain ⟨_, _, _, _, _, _, ea⟩ := ask_plain (show (1000 : Int) + 2 * j + 1 ≤ 1000000 by omega) x1
    rw [en, ea]
    refine ⟨?_, fun i hi => ?_⟩
    · show m ≤ (w.nd k).last + 1; omega
    · show (if 0 + i < (w.nd k).len then (w.nd k).an ((w.nd k).off + (0 + i)) else (w.nd k).last + 1) ≠ m
      split
      · rename_i q2
        exact t2 (0 + i) q2
      · omega
  · obtain ⟨t1, t2⟩ := h.not2 q
    rw [ec, tn.2.1]
    refine ⟨t1, fun q3 q4 => ?_⟩
    rcases tn.2.2 with ⟨u1, u2⟩ | u1
    · rw [u2]; exact t2 q3 (by rw [← u1]; exact q4)
    · rw [u1] at q4
      exfalso
      omega

/-- The second hearing changes nothing that is looked at. -/
theorem TwI.same {p k : Nat} {T a m : Int} {j : Nat} {w : Wd} (h : TwI p k T a m j w) :
    decide (w.c.node = (w.again k a (k + 1) m).c.node) = true ∧ decide (w.c.since = (w.again k a (k + 1) m).c.since) = true ∧ decide ((w.nd k).now = ((w.again k a (k + 1) m).nd k).now) = true ∧ decide ((w.nd k).en = ((w.again k a (k + 1) m).nd k).en) = true := by
  have k3 : k < 3 := by have := h.hk; omega
  obtain ⟨e1, e2⟩ := nd_again w k3 a (k + 1) m
  obtain ⟨hv, hn⟩ := h.valid
  by_cases q : a = 2
  · have hd : decide (a = 2) = true := by simpa using q
    rw [hd] at e1 e2
    rw [e1, e2]
    have hs : (w.nd k).hear a (k + 1) m = w.nd k := by
      unfold Nod.hear
      rw [show (w.nd k).gets a (k + 1) m = false by
        unfold Nod.gets
        rcases at_spec (w.nd k) m with ⟨c1, _⟩ | ⟨_, c2, c3⟩
        · rw [c1]; simp
        · exact absurd c3 ((h.two q).2 _ c2)]
    rw [hs]
    simp
  · have hd : decide (a = 2) = false := by simpa using q
    rw [hd] at e1 e2
    rw [e1, e2]
    obtain ⟨t1, t2⟩ := h.not2 q
    have kk : ((k : Int) + 1).toNat = k + 1 := by omega
    have a3 := h.a3
    refine ⟨?_, ?_, by simp, by simp⟩
    all_goals
      unfold Cen.hear
      rw [hv, hn]
      simp only [if_true, Bool.false_eq_true, if_false]
      rcases (show a = 1 ∨ a = 3 by omega) with q1 | q1
      · subst q1
        simp only [decide_true, if_true]
        unfold Cen.ask
        rw [kk, show decide (m ≤ w.c.gr (k + 1)) = true by simpa using t1]
        simp
      · subst q1
        simp only [show decide ((3 : Int) = 1) = false from rfl, decide_true, if_true, Bool.false_eq_true, if_false]
        unfold Cen.back Cen.drops
        rw [show (decide (w.c.node = (k : Int) + 1) && decide (w.c.number ≤ m)) = false by
          by_cases q4 : w.c.node = (k : Int) + 1
          · have := t2 rfl q4
            simp
            omega
          · simp [q4]]
        simp
end Go.Proofs.Ytmnpnnegnlhemaa.Eng
namespace Go.Proofs.Ytmnpnnegnlhemaa.Eng
open Go

def t9_1 (v : Value) (nd T : Int) (i : Nat) : List SV := [.junk, .raw v, .raw (.int .u8 nd), .junk, .junk, .junk, .junk, .ptr 9 0, .raw (.bool true), ri T, ri (i : Int)] ++ junks 194
def h9_1 (w : Wd) : List AB := hW1 w ++ [.cells [.ptr 0 0, .lst 3 1 0 1, .lst 4 3 0 w.sl, .lst 5 1 0 1, .lst 6 1 0 1, ri w.slow] 75]
/-- A world, a word, and the node that it is of. -/
def hT1 (k : Nat) (w : Wd) (slow a n m : Int) (s : Nat) : List AB := hW1 w ++ [.cells [.ptr 0 0, .lst 3 1 0 1, .lst 4 3 0 s, .lst 5 1 0 1, .lst 6 1 0 1, ri slow] 75, .cells [ri a, ri n, ri m] 41, .cells [.ptr k 0] 30]
theorem again_10 (w : Wd) (a n m : Int) : w.again 0 a n m = match decide (a = 2) with
    | true => { w with x0 := w.x0.hear a n m }
    | false => { w with c := w.c.hear a n m } := rfl
set_option maxHeartbeats 1000000 in
set_option maxRecDepth 100000 in
theorem ok43_10 (E : Addr → Option Value) (w : Wd) (a n m slow : Int) (s : Nat) (hx : w.x0.len ≤ 1000000) : Ok Try.prog E 43 [.ptr 10 0, .ptr 11 0, .ptr 9 0] (hT1 7 w slow a n m s) (.tup []) (hT1 7 (w.again 0 a n m) slow a n m s) := by
  refine ok_of_eng (pl := pl43) mixed (ΓV1_sound E) Try.func43 rfl rfl (by kernel_rfl) (by simp [hT1, hW1, encC]) 100 (fun F hF => ?_)
  cases hk : decide (a = 2) with
  | true =>
    simp only [Try.f43, pl43, ΓV1, hT1, hk, hx, cK, cM, ivn, lix, lof, lln, el0, el1, hd1, cellOf, lstF, nodupB, ren, rens, encC, hW1, bN, lN, decN2, lg, Nod.eta, onNat, sigN, decN, encN, Nod.room, ri, rb, renB, rens, ren, sig, subH, updH, eng, litSt, srunA_nil, srunA_b, stepR, contB_mk, r0, regC, sop, unw, strip, sev, tg, tset, tput, undefs, needs, opNeeds, sBin, ibin, shiftOp, selC, sLoad, sField, sCall, cellsAt, hget, hset, hd1, lg, List.length_cons, List.length_nil, List.cons_append, List.nil_append, List.append_nil, List.map_cons, List.map_nil, List.take_succ_cons, List.take_zero, List.take_nil, List.drop_zero, List.contains_cons, List.contains_nil, List.getElem?_cons_zero, List.getElem?_cons_succ, true_and, and_self, or_true, not_false_eq_true, eq_self, ne_eq, Bool.false_eq_true, Bool.not_false, Bool.or_false, Bool.and_self, Nat.zero_add, Nat.add_zero, Nat.le_refl, Option.getD_some, reduceCtorEq, Nat.reduceAdd, Nat.reduceSub, Nat.reduceLT, Nat.reduceLeDiff, Nat.reduceBEq, tk3, ta3, tk30, ta30, tk41, ts41, ta41, tf41_0]
    exact hF _ _ _ ⟨trivial, by simp only [Try.f43, hT1, again_10, hk, hW1, encC, bN, lN, lg, ri, rb, retP, sResults, retV, vwk, vwks, vwk1, hwk, bwk, sc, scs, scEnts, lg, List.length_cons, List.length_nil, List.cons_append, List.nil_append, true_and, and_true, and_self, implies_true, eq_self, Bool.and_self, decide_true, Nat.zero_add, Nat.le_refl, Nat.reduceAdd, Nat.reduceLT] <;> (and_intros <;> first | rfl | (intro k hk; (rcases k with _ | _ | _ | k <;> first | rfl | omega)))⟩
  | false =>
    simp only [Try.f43, pl43, ΓV1, hT1, hk, cK, onK, decC2, ivn, hd1, cellOf, lstN, lstF, encC, hW1, bN, lN, lg, Cen.eta, says_word, ri, rb, eng, litSt, srunA_nil, srunA_b, stepR, contB_mk, r0, regC, sop, unw, strip, sev, tg, tset, tput, undefs, needs, opNeeds, sBin, ibin, shiftOp, selC, sLoad, sField, sCall, cellsAt, hget, hd1, lg, List.length_cons, List.length_nil, List.cons_append, List.nil_append, List.map_cons, List.map_nil, List.take_succ_cons, List.take_zero, List.take_nil, List.drop_succ_cons, List.drop_zero, true_and, and_self, or_true, not_false_eq_true, eq_self, ne_eq, Bool.false_eq_true, Nat.zero_add, Nat.add_zero, Nat.le_refl, reduceCtorEq, Nat.reduceAdd, Nat.reduceSub, Nat.reduceLeDiff, tk3, ta3, tk27, ta27, tk41, ts41, ta41, tf41_0, tf75_0]
    exact hF _ _ _ ⟨trivial, by simp only [Try.f43, hT1, again_10, hk, hW1, encC, bN, lN, lg, ri, rb, retP, sResults, retV, vwk, vwks, vwk1, hwk, bwk, sc, scs, scEnts, lg, List.length_cons, List.length_nil, List.cons_append, List.nil_append, true_and, and_true, and_self, implies_true, eq_self, Bool.and_self, decide_true, Nat.zero_add, Nat.le_refl, Nat.reduceAdd, Nat.reduceLT] <;> (and_intros <;> first | rfl | (intro k hk; (rcases k with _ | _ | _ | k <;> first | rfl | omega)))⟩
theorem renT1 (τ : Nat → Nat) (k : Nat) (hk : τ k = k) (t1 : ∀ j, j < 12 → τ j = j) (w : Wd) (slow a n m : Int) (s : Nat) : (hT1 k w slow a n m s).map (renB τ) = hT1 k w slow a n m s := by
  unfold hT1
  rw [List.map_append, renW1 τ (fun j hj => t1 j (by omega)) w]
  simp only [List.map_cons, List.map_nil, renB, rens, ren, ri, hk, t1 0 (by decide), t1 3 (by decide), t1 4 (by decide), t1 5 (by decide), t1 6 (by decide)]
theorem hwk_hT1 (k : Nat) (hk : k < 12) (w : Wd) (slow a n m : Int) (s : Nat) : hwk (hT1 k w slow a n m s).length (hT1 k w slow a n m s) (hT1 k w slow a n m s) := by
  have hk' : decide (k < 12) = true := by simpa using hk
  simp only [hT1, hW1, encC, bN, lN, ri, rb, hk, vwks, vwk1, hwk, bwk, sc, scs, scEnts, lg, List.length_cons, List.length_nil, List.cons_append, List.nil_append, true_and, and_true, and_self, implies_true, eq_self, Bool.and_self, decide_true, Nat.zero_add, Nat.le_refl, Nat.reduceAdd, Nat.reduceLT] <;> (and_intros <;> first | rfl | (intro k hk; (rcases k with _ | _ | _ | k <;> first | rfl | omega)))
/-- The closure of the law: the word is heard. -/
def on43_1 (H : List AB) : Res := match pix (cellOf (hget H 11) 0) with
  | _ => ⟨(pix (cellOf (hget H 11) 0) = 7 ∧ H = hT1 7 (decV1 H (csOf (hget H 9))) (ivn (cellOf (hget H 9) 5)) (ivn (cellOf (hget H 10) 0)) (ivn (cellOf (hget H 10) 1)) (ivn (cellOf (hget H 10) 2)) (lln (cellOf (hget H 9) 2)) ++ H.drop 12) ∧ (decV1 H (csOf (hget H 9))).x0.len ≤ 1000000, .tup [], hT1 7 ((decV1 H (csOf (hget H 9))).again 0 (ivn (cellOf (hget H 10) 0)) (ivn (cellOf (hget H 10) 1)) (ivn (cellOf (hget H 10) 2))) (ivn (cellOf (hget H 9) 5)) (ivn (cellOf (hget H 10) 0)) (ivn (cellOf (hget H 10) 1)) (ivn (cellOf (hget H 10) 2)) (lln (cellOf (hget H 9) 2)) ++ H.drop 12⟩
theorem on43_1_sound {E : Addr → Option Value} {H : List AB} (h : (on43_1 H).pre) : Ok Try.prog E 43 [.ptr 10 0, .ptr 11 0, .ptr 9 0] H (on43_1 H).val (on43_1 H).heap := by
  unfold on43_1 at h ⊢
  · obtain ⟨⟨_, h1⟩, h2⟩ := h
    have h1' : H = hT1 7 (decV1 H (csOf (hget H 9))) (ivn (cellOf (hget H 9) 5)) (ivn (cellOf (hget H 10) 0)) (ivn (cellOf (hget H 10) 1)) (ivn (cellOf (hget H 10) 2)) (lln (cellOf (hget H 9) 2)) ++ H.drop 12 := h1
    show Ok Try.prog E 43 [.ptr 10 0, .ptr 11 0, .ptr 9 0] H (.tup []) (hT1 7 ((decV1 H (csOf (hget H 9))).again 0 (ivn (cellOf (hget H 10) 0)) (ivn (cellOf (hget H 10) 1)) (ivn (cellOf (hget H 10) 2))) (ivn (cellOf (hget H 9) 5)) (ivn (cellOf (hget H 10) 0)) (ivn (cellOf (hget H 10) 1)) (ivn (cellOf (hget H 10) 2)) (lln (cellOf (hget H 9) 2)) ++ H.drop 12)
    have key := ok43_10 E (decV1 H (csOf (hget H 9))) (ivn (cellOf (hget H 10) 0)) (ivn (cellOf (hget H 10) 1)) (ivn (cellOf (hget H 10) 2)) (ivn (cellOf (hget H 9) 5)) (lln (cellOf (hget H 9) 2)) h2
    revert key
    revert h1'
    generalize H.drop 12 = X
    generalize (decV1 H (csOf (hget H 9))) = w
    generalize ivn (cellOf (hget H 10) 0) = a
    generalize ivn (cellOf (hget H 10) 1) = n
    generalize ivn (cellOf (hget H 10) 2) = m
    generalize ivn (cellOf (hget H 9) 5) = sw
    generalize lln (cellOf (hget H 9) 2) = s
    intro h1' key
    rw [h1']
    have := Ok.first 12 (A := hT1 7 w sw a n m s) (B := hT1 7 (w.again 0 a n m) sw a n m s) (N := []) (by rw [List.append_nil]; exact key) X rfl rfl (fun τ t1 _ => ⟨by simp only [rens, ren, t1 9 (by decide), t1 10 (by decide), t1 11 (by decide)], renT1 τ 7 (t1 7 (by decide)) t1 _ _ _ _ _ _, renT1 τ 7 (t1 7 (by decide)) t1 _ _ _ _ _ _⟩) (by decide) (hwk_hT1 7 (by decide) _ _ _ _ _ _)
    simpa [ren, rens] using this
def ΓT1 : Con := fun f args H => match f with
  | .func 43 => match args with
    | [.ptr 10 0, .ptr 11 0, .ptr 9 0] => on43_1 H
    | _ => no
  | f => ΓV1 f args H
theorem ΓT1_sound (E : Addr → Option Value) : Con.Sound Try.prog E ΓT1 := by
  intro f args H h
  unfold ΓT1 at h ⊢
  split at h
  · split at h
    · exact on43_1_sound h
    · exact h.elim
  · exact ΓV1_sound E f args H h
def t9b_10 (nd : Int) (i : Nat) : List SV := [.junk, .junk, .raw (.int .u8 nd), .junk, .junk, .junk, .junk, .ptr 9 0, .junk, .junk, .junk, .junk, .junk, .junk, .junk, .junk, .ptr 10 0, .ptr 11 0, .fn (.func 43) [] [.ptr 10 0, .ptr 11 0, .ptr 9 0], ri (i : Int)] ++ junks 185
theorem round_10 (w : Wd) : w.round 0 = { w with x0 := w.x0.tk.ask, c := w.c.tick } := rfl
set_option maxHeartbeats 8000000 in
set_option maxRecDepth 100000 in
theorem ok9_1 (E : Addr → Option Value) (a b c nd : Int) (aa : Option Addr) (n cap : Nat) (e0 e1 : Nat → Int) (hE : Evts E aa n e0 e1) (ha : (IntKind.i64.wrap a).tmod 3 = 0) (hb : 0 ≤ b ∧ b < 256) (hc : 0 ≤ c ∧ c < 256) (hnd : 0 ≤ nd ∧ nd < 256) :
    Ok Try.prog E 9 [.agg [.raw (.int .u8 a), .raw (.int .u8 b), .raw (.int .u8 c)], .raw (.slice aa n cap), .raw (.int .u8 nd)] [] (rb true) [] := by
  refine ok_of_eng (pl := pl9) mixed (ΓT1_sound E) Try.func9 rfl rfl (by kernel_rfl) (by simp) 300 (fun F hF => ?_)
  cases hn : decide ((400 : Int) < n) with
  | true =>
    simp only [Try.f9, pl9, ΓT1, ΓV1, c16, hn, eng, litSt, srunA_nil, srunA_b, stepR, contB_mk, r0, regC, sop, unw, strip, sev, tg, tset, tput, undefs, needs, opNeeds, sBin, ibin, shiftOp, selC, sLen, sBox, sCall, sBuiltin, vcells, one, holeAt, idxAt, pushAt, List.length_cons, List.length_nil, List.cons_append, List.nil_append, List.map_cons, List.map_nil, List.all_cons, List.all_nil, true_and, and_self, or_true, eq_self, Bool.false_eq_true, Bool.and_self, Nat.zero_add, Value.oneCell', Nat.reduceAdd, Nat.reduceSub, te70]
    exact hF _ _ _ ⟨trivial, by simp only [Try.f9, rb, retP, sResults, sRes1, resK, retV, vwk, vwk1, hwk, sc, tg, List.length_nil, and_self, eq_self, Nat.le_refl]⟩
  | false =>
    have hn' : n ≤ 400 := by simp at hn; omega
    have hT := lT_le hb
    have hS := lS0_le hc
    have hT' : 1 ≤ lT b ∧ lT b ≤ 12 := ⟨hT.1, hT.2.1⟩
    have hT0 : IntKind.i64.wrap (1 + (IntKind.i64.wrap b).tmod 12) = lT b := rfl
    have hl : layOk1 a b c = True := eq_true ⟨ha, cenOk_of (by decide) hT' hS, nodeOk_of (by decide) hT'⟩
    simp only [Try.f9, pl9, ΓT1, ΓV1, c40_1, hl, hT0, eW0_1, w0_1, newC, newN, hn, hd1, ren, rens, encC, hW1, bN, lN, lg, cast3, ri, rb, renB, rens, ren, renEnts, sig, updH, eng, litSt, srunA_nil, srunA_b, stepR, contB_mk, r0, regC, sop, unw, strip, sev, tg, tset, tput, undefs, needs, opNeeds, sBin, ibin, shiftOp, selC, sLoad, sStore, sExtract, sIndex, sLen, sNew, sAlloc, sBox, sCall, sBuiltin, sConv, cellsAt, hget, hset, hd1, vcells, one, splice, holeAt, idxAt, pushAt, lg, List.length_cons, List.length_nil, List.cons_append, List.nil_append, List.append_nil, List.map_cons, List.map_nil, List.take_succ_cons, List.take_zero, List.take_nil, List.drop_succ_cons, List.drop_zero, List.drop_nil, List.all_cons, List.all_nil, List.getElem?_cons_zero, List.getElem?_cons_succ, List.getElem?_nil, true_and, and_self, or_true, not_false_eq_true, eq_self, ne_eq, Bool.false_eq_true, Bool.and_self, Nat.zero_add, Nat.add_zero, Nat.mul_one, Nat.sub_zero, Nat.le_refl, Option.getD_none, Value.oneCell', Nat.reduceAdd, Nat.reduceSub, Nat.reduceLeDiff, Int.reduceLT, Int.reduceLE, Int.reduceEq, Int.reduceToNat, ti3, tk5, ts5, ta5, ti5, tk69, ts69, ta69, tr69, te70, tk75, ts75, tz75]
    refine ⟨Nat × Wd, fun x => t9_1 (.slice aa n cap) nd (lT b) x.1, fun x => h9_1 x.2, fun x => x.1 ≤ n ∧ Run 1 (lT b) (lS0 c) x.1 x.2, fun x => n - x.1, (0, w0_1 (lT b) (lS0 c)), ⟨Nat.zero_le _, run0_1 hT' hS⟩, ⟨some [1, 2, 3, 4, 5, 6, 7, 8, 9, 10], ?_⟩, ?_⟩
    · simp only [NwO, Nw, t9_1, h9_1, w0_1, newC, newN, hW1, encC, bN, lN, lg, junks, ri, rb, Int.natCast_zero, NwO, Nw, wk, renJ, renJs, mvH, hgetO, memB, posG, jp, renJB, renJEnts, vwks, vwk1, hwk, bwk, sc, scs, scEnts, lg, List.length_cons, List.length_nil, List.cons_append, List.nil_append, List.take_zero, true_and, and_true, and_self, implies_true, eq_self, Bool.and_self, decide_true, decide_false, Nat.zero_add, Nat.add_zero, Nat.le_refl, reduceCtorEq, Nat.reduceAdd, Nat.reduceLT, Nat.reduceLeDiff, Nat.reduceEqDiff, Int.reduceToNat] <;> (and_intros <;> first | rfl | (intro k hk; (rcases k with _ | _ | _ | k <;> first | rfl | omega)))
    · rintro ⟨i, w⟩ ⟨hi, hr⟩ F' hN hX
      have hdn := hr.rest
      cases hlt : decide ((i : Int) < n) with
      | false =>
        simp only [t9_1, h9_1, junks, pl9, hlt, ri, eng, litSt, srunA_nil, srunA_b, stepR, contB_mk, r0, r1, r2, regC, sop, unw, strip, sev, tg, tset, tput, needs, opNeeds, sBin, ibin, shiftOp, gb, gslot, gdst, onth, wants, sPick, selC, sLen, sBuiltin, List.cons_append, List.nil_append, List.map_cons, List.map_nil, true_and, and_self, or_true, implies_true, eq_self, Bool.true_eq_false, Bool.false_eq_true, Bool.cond_true, ↓reduceIte, te70]
        refine hX _ _ _ (by simp) ?_
        cases hs : decide ((w.sl : Int) = 0) with
        | true =>
          simp only [popF, pl9, ΓT1, ΓV1, c16, hs, hd1, encC, hW1, bN, lN, lg, ri, rb, eng, litSt, srunA_nil, srunA_b, stepR, contB_mk, r0, regC, sop, unw, strip, sev, tg, tset, tput, needs, opNeeds, sBin, ibin, shiftOp, popF, selC, exitC, sLoad, sField, sLen, sCall, sBuiltin, sUn, cellsAt, hget, hd1, lg, List.length_cons, List.length_nil, List.cons_append, List.nil_append, List.map_cons, List.map_nil, List.take_succ_cons, List.take_zero, List.drop_succ_cons, List.drop_zero, true_and, and_self, or_true, not_false_eq_true, eq_self, ne_eq, Bool.false_eq_true, Bool.not_true, Nat.zero_add, reduceCtorEq, Nat.reduceAdd, Nat.reduceLeDiff, Nat.reduceBEq, tk72, ta72, te72, tf75_2]
          exact hF _ _ _ ⟨trivial, by simp only [Try.f9, rb, retP, sResults, sRes1, resK, retV, vwk, vwk1, hwk, sc, tg, List.length_nil, and_self, eq_self, Nat.le_refl]⟩
        | false =>
          have hs0 : w.sl ≠ 0 := by simpa using hs
          obtain ⟨j, hj⟩ : ∃ j, w.sl = j + 1 := ⟨w.sl - 1, by omega⟩
          have hsl : (w.sl : Int) ≤ (i : Nat) := hr.base.sl
          have hidx : IntKind.i64.wrap ((w.sl : Int) - 1) = (j : Int) := by rw [w64 (by omega) (by omega)]; omega
          have hjl : ((j : Int) < (w.sl : Int)) = True := by simp; omega
          have hb3 : 1 ≤ w.sn j ∧ w.sn j ≤ (1 : Nat) := (hr.base.sent j (show j < w.sl by omega)).2.1
          have hk3 : w.sn j = 1 := by omega
          have q := hk3
          · obtain ⟨hI0, hln⟩ := twice0 (by decide) hT' (by omega) hr (show j < w.sl by omega) (k := 0) (by rw [q]; rfl)
            have q1 : ¬ (w.sn j < 1) := by omega
            have q2 : ¬ (1 < w.sn j) := by omega
            have hww : IntKind.i64.wrap 0 = 0 := by decide
            simp only [Wd.nd, Int.natCast_zero, Int.reduceAdd] at hI0 hln
            generalize hak : w.sk j = ak at *
            generalize hm : w.sm j = m at *
            have hr1 : ∀ k, 1 ≤ k → k < 3 → (w.again 0 ak 1 m).nd k = dN := fun i h1 h3 => by rw [← hr.rest i h1 h3]; exact again_rest w (by omega) _ _ _
            simp only [popF, pl9, ΓT1, on43_1, hT1, csOf, pix, hs, q, hak, hm, hidx, hjl, hww, hln, decV1, decC2, ivn, lof, lln, el0, el1, el2, hd1, cellOf, lstN, lstF, encC, hW1, bN, lN, decN2, lg, Cen.eta, Nod.eta, cast1, etaL1 w (hdn 1 (by decide) (by decide)) (hdn 2 (by decide) (by decide)), ri, rb, eng, litSt, srunA_nil, srunA_b, stepR, contB_mk, r0, r1, r2, regC, sop, unw, strip, sev, tg, tset, tput, needs, opNeeds, sBin, ibin, shiftOp, gb, gslot, gdst, onth, wants, sPick, popF, selC, exitC, sLoad, sStore, sField, sIndex, sLen, sNew, sAlloc, sCall, sBuiltin, sUn, cellsAt, hget, hset, hd1, vcells, one, splice, holeAt, idxAt, pushAt, lg, List.length_cons, List.length_nil, List.cons_append, List.nil_append, List.append_nil, List.map_cons, List.map_nil, List.take_succ_cons, List.take_zero, List.take_nil, List.drop_succ_cons, List.drop_zero, List.drop_nil, List.all_cons, List.all_nil, true_and, and_true, and_self, or_true, implies_true, not_false_eq_true, eq_self, ne_eq, Bool.false_eq_true, Bool.not_true, Bool.not_false, Bool.and_self, Bool.cond_false, decide_false, Nat.zero_add, Nat.add_zero, Nat.le_refl, Int.toNat_natCast, Int.toNat_zero, Int.natCast_nonneg, reduceCtorEq, Value.oneCell', ↓reduceIte, Nat.reduceAdd, Nat.reduceLT, Nat.reduceLeDiff, Nat.reduceBEq, Int.reduceLT, Int.reduceLE, Int.reduceSub, tk3, ta3, tk30, ts30, ta30, tz30, tk41, ts41, ta41, tz41, tf41_1, tk71, ta71, te71, tk72, ta72, te72, tf75_1, tf75_2]
            have h5 := tmod_lt hnd.1 (show (0 : Int) < 5 by decide)
            rw [← wrap_byte hnd.1 hnd.2] at h5
            refine ⟨(show j < w.sl by omega), Nat × Wd, fun x => t9b_10 nd x.1, fun x => hT1 7 x.2 x.2.slow ak 1 m x.2.sl, fun x => (TwI 1 0 (lT b) ak m x.1 x.2 ∧ (∀ i, 1 ≤ i → i < 3 → x.2.nd i = dN)) ∧ (x.1 : Int) ≤ (IntKind.i64.wrap nd).tmod 5, fun x => 5 - x.1, (0, w.again 0 ak 1 m), ⟨⟨hI0, hr1⟩, by simp only; omega⟩, ⟨none, ?_⟩, ?_⟩
            · simp only [NwO, Nw, t9b_10, hT1, again_sl, again_slow, hW1, encC, bN, lN, lg, junks, ri, rb, Int.natCast_zero, NwO, Nw, wk, vwks, vwk1, hwk, bwk, sc, scs, scEnts, lg, List.length_cons, List.length_nil, List.cons_append, List.nil_append, true_and, and_true, and_self, implies_true, eq_self, Bool.and_self, decide_true, Nat.zero_add, Nat.le_refl, Nat.reduceAdd, Nat.reduceLT, Nat.reduceLeDiff] <;> (and_intros <;> first | rfl | (intro k hk; (rcases k with _ | _ | _ | k <;> first | rfl | omega)))
            · rintro ⟨j2, u⟩ ⟨⟨hy, hyr⟩, hj2⟩ F3 hN3 hX3
              have hyl : u.x0.len ≤ 1000000 := by have := hy.nod.len; have := hy.hj; simp only [Wd.nd] at *; omega
              cases hlt2 : decide ((j2 : Int) < (IntKind.i64.wrap nd).tmod 5) with
              | true =>
                have hl5 : (j2 : Int) < (IntKind.i64.wrap nd).tmod 5 := of_decide_eq_true hlt2
                have hw2 : IntKind.i64.wrap ((j2 : Int) + 1) = j2 + 1 := wrap1 (by omega) (by omega)
                have hyl2 : u.x0.tk.len ≤ 1000000 := hyl
                simp only [t9b_10, hT1, junks, pl9, ΓT1, ΓV1, hlt2, hw2, hyl2, cK, onK, cM, decC2, ivn, lix, lof, lln, el0, el1, hd1, cellOf, lstN, lstF, nodupB, ren, rens, encC, hW1, bN, lN, decN2, lg, Cen.eta, Nod.eta, onNat, allN, sigN, decN, encN, encN2, Nod.room, ask_word, ri, rb, renB, rens, ren, sig, subH, updH, eng, litSt, srunA_nil, srunA_b, stepR, contB_mk, r0, regC, sop, unw, strip, sev, tg, tset, tput, needs, opNeeds, sBin, ibin, shiftOp, selC, sLoad, sField, sCall, sConv, cellsAt, hget, hset, hd1, lg, List.length_cons, List.length_nil, List.cons_append, List.nil_append, List.append_nil, List.map_cons, List.map_nil, List.take_succ_cons, List.take_zero, List.take_nil, List.drop_succ_cons, List.drop_zero, List.contains_cons, List.contains_nil, List.getElem?_cons_zero, List.getElem?_cons_succ, List.getElem?_nil, true_and, and_self, or_true, not_false_eq_true, eq_self, ne_eq, Bool.false_eq_true, Bool.not_false, Bool.or_false, Bool.and_self, Nat.zero_add, Nat.add_zero, Nat.le_refl, Option.getD_some, Option.getD_none, reduceCtorEq, Nat.reduceAdd, Nat.reduceSub, Nat.reduceLT, Nat.reduceLeDiff, Nat.reduceBEq, Int.reduceEq, ti3, ti5, tk27, ta27, tk30, ta30, tf75_0]
                refine hN3 (some [0, 1, 2, 3, 4, 5, 6, 7, 12, 9, 10, 11]) (j2 + 1, u.round 0) _ _ ⟨⟨hy.step (by omega), fun i h1 h3 => by rw [← hyr i h1 h3]; exact round_rest u (by omega)⟩, by simp only; omega⟩ (by simp only; omega) ?_
                simp only [NwO, Nw, t9b_10, hT1, round_10, hW1, encC, bN, lN, lg, junks, ri, rb, Int.natCast_add, Int.natCast_one, NwO, Nw, wk, renJ, renJs, mvH, hgetO, memB, posG, jp, renJB, renJEnts, vwks, vwk1, hwk, bwk, sc, scs, scEnts, lg, List.length_cons, List.length_nil, List.cons_append, List.nil_append, List.take_zero, true_and, and_true, and_self, implies_true, eq_self, Bool.and_self, decide_true, decide_false, Nat.zero_add, Nat.le_refl, reduceCtorEq, Nat.reduceAdd, Nat.reduceLT, Nat.reduceLeDiff, Nat.reduceEqDiff] <;> (and_intros <;> first | rfl | (intro k hk; (rcases k with _ | _ | _ | k <;> first | rfl | omega)))
              | false =>
                obtain ⟨v1, v2, v3, v4⟩ := hy.same
                simp only [Wd.nd, Int.natCast_zero, Int.reduceAdd] at v1 v2 v3 v4
                simp only [t9b_10, hT1, junks, pl9, hlt2, encC, hW1, bN, lN, lg, ri, rb, eng, litSt, srunA_nil, srunA_b, stepR, contB_mk, r0, regC, sop, unw, strip, sev, tg, tset, tput, needs, opNeeds, sBin, ibin, shiftOp, selC, sConv, lg, List.cons_append, List.nil_append, true_and, and_self, or_true, not_false_eq_true, eq_self, ne_eq, Bool.false_eq_true, Int.reduceEq, ti3, ti5]
                refine hX3 _ _ _ (by simp) ?_
                simp only [popF, pl9, ΓT1, on43_1, hT1, csOf, pix, ΓV1, c16, hyl, v1, v2, v3, v4, decV1, cK, onK, cM, decC2, ivn, lix, lof, lln, el0, el1, el2, hd1, cellOf, lstN, lstF, nodupB, ren, rens, encC, hW1, bN, lN, decN2, lg, Cen.eta, Nod.eta, onNat, allN, sigN, decN, encN, etaL1 u (hyr 1 (by decide) (by decide)) (hyr 2 (by decide) (by decide)), ri, rb, renB, rens, ren, sig, subH, updH, eng, litSt, srunA_nil, srunA_b, stepR, contB_mk, r0, r1, r2, regC, sop, unw, strip, sev, tg, tset, tput, needs, opNeeds, sBin, ibin, shiftOp, gb, gslot, gdst, onth, wants, sPick, popF, exitC, sLoad, sExtract, sField, sCall, cellsAt, hget, hset, hd1, lg, List.length_cons, List.length_nil, List.cons_append, List.nil_append, List.append_nil, List.map_cons, List.map_nil, List.take_succ_cons, List.take_zero, List.take_nil, List.drop_succ_cons, List.drop_zero, List.drop_nil, List.contains_cons, List.contains_nil, List.getElem?_cons_zero, List.getElem?_cons_succ, true_and, and_self, or_true, implies_true, not_false_eq_true, eq_self, ne_eq, Bool.true_eq_false, Bool.false_eq_true, Bool.not_false, Bool.or_false, Bool.and_self, Bool.cond_true, Nat.zero_add, Nat.add_zero, Nat.le_refl, Option.getD_some, reduceCtorEq, ↓reduceIte, Nat.reduceAdd, Nat.reduceSub, Nat.reduceLT, Nat.reduceLeDiff, Nat.reduceBEq, tk27, ta27, tk30, ta30, tf75_0]
                exact hF _ _ _ ⟨trivial, by simp only [Try.f9, rb, retP, sResults, sRes1, resK, retV, vwk, vwk1, hwk, sc, tg, List.length_nil, and_self, eq_self, Nat.le_refl]⟩
      | true =>
        have hil : i < n := by simp at hlt; omega
        obtain ⟨bb, o, rfl, hcell⟩ := hE.1 (by omega)
        obtain ⟨c0, c1⟩ := hcell i hil
        have hby := hE.2 i hil
        have hlt' : ((i : Int) < n) = True := by simp; omega
        have hw : IntKind.i64.wrap ((i : Int) + 1) = i + 1 := wrap1 (by omega) (by omega)
        have r := hr.step (by decide) hT' hS (by omega) (what := e0 i) hby.1
        have hfit : Fit 1 w = True := eq_true (hr.fit (by decide) hT' hS (by omega))
        have hb0 : (0 ≤ e1 i) = True := eq_true hby.1
        have hb1 : (e1 i < 256) = True := eq_true hby.2
        have hk3 : (e1 i).tmod 1 = 0 := by
          have := tmod_lt hby.1 (show (0 : Int) < 1 by decide)
          omega
        have q := hk3
        · obtain ⟨z1, z2⟩ := two_tests (by decide) hT' (by omega) hby.1 hr r (show 0 < 1 by decide)
          simp only [Wd.nd] at z1 z2
          have hkk : (IntKind.i64.wrap (e1 i)).tmod 1 = 0 := by rw [wrap_byte hby.1 hby.2]; exact q
          cases z3 : decide ((w.step 1 (e0 i) (e1 i)).x0.en < w.x0.en) with
          | false =>
            simp only [t9_1, h9_1, junks, pl9, ΓT1, ΓV1, onHap1, preHap1, decV1, hU0_1, tU1, lS, eWs, cK, cM, decC2, ivn, lix, lof, lln, el0, el1, el2, hd1, cellOf, lstN, lstF, nodupB, ren, rens, encC, eW, hW1, bN, lN, decN2, lg, Cen.eta, Nod.eta, cast1, onNat, allN, sigN, decN, encN, etaL1 w (hdn 1 (by decide) (by decide)) (hdn 2 (by decide) (by decide)), hlt', c0, c1, hw, hfit, hb0, hb1, hkk, z1, z3, ri, rb, renB, rens, ren, sig, subH, updH, ↓engE, drawE_mk, eng, litSt, srunA_nil, srunA_b, stepR, contB_mk, r0, r1, r2, regC, sop, unw, strip, sev, tg, tset, tput, needs, opNeeds, sBin, ibin, shiftOp, gb, gslot, gdst, onth, wants, sPick, selC, sLoad, sStore, sExtract, sField, sIndex, sLen, sCall, sBuiltin, sConv, cellsAt, roCells, hget, hset, hd1, vcells, one, splice, drawSt, preL, chkL, stp, nxtB_mk, pref_0, pref_b, allocOp, holes, lg, List.length_cons, List.length_nil, List.cons_append, List.nil_append, List.append_nil, List.map_cons, List.map_nil, List.take_succ_cons, List.take_zero, List.take_nil, List.drop_succ_cons, List.drop_zero, List.drop_nil, List.all_cons, List.all_nil, List.contains_cons, List.contains_nil, List.getElem?_cons_zero, List.getElem?_cons_succ, true_and, and_self, or_true, implies_true, imp_self, not_false_eq_true, eq_self, ne_eq, Bool.true_eq_false, Bool.false_eq_true, Bool.not_false, Bool.and_false, Bool.or_false, Bool.and_self, Bool.cond_true, Bool.cond_false, decide_true, Nat.zero_add, Nat.add_zero, Nat.le_refl, Int.toNat_natCast, Int.toNat_zero, Int.natCast_nonneg, Option.getD_some, Option.isSome_some, reduceCtorEq, Value.oneCell', ↓reduceIte, Nat.reduceAdd, Nat.reduceSub, Nat.reduceLT, Nat.reduceLeDiff, Nat.reduceBEq, Int.reduceLT, Int.reduceLE, Int.reduceEq, ti3, tk5, ta5, ti5, tk30, ts30, ta30, te70, tk71, ta71, te71, tk75, ts75, ta75, tf75_1, tk80, ts80, ta80, tf80_0, tf80_1]
            refine hN (some [0, 1, 2, 3, 10, 5, 6, 7, 11, 9]) (i + 1, w.step 1 (e0 i) (e1 i)) _ _ ⟨by simp only; omega, r⟩ (by simp only; omega) ?_
            simp only [NwO, Nw, t9_1, h9_1, hW1, encC, bN, lN, lg, junks, ri, rb, Int.natCast_add, Int.natCast_one, NwO, Nw, wk, renJ, renJs, mvH, hgetO, memB, posG, jp, renJB, renJEnts, vwks, vwk1, hwk, bwk, sc, scs, scEnts, lg, List.length_cons, List.length_nil, List.cons_append, List.nil_append, List.take_zero, true_and, and_true, and_self, implies_true, eq_self, Bool.and_self, decide_true, decide_false, Nat.zero_add, Nat.le_refl, reduceCtorEq, Nat.reduceAdd, Nat.reduceLT, Nat.reduceLeDiff, Nat.reduceEqDiff] <;> (and_intros <;> first | rfl | (intro k hk; (rcases k with _ | _ | _ | k <;> first | rfl | omega)))
          | true =>
            rw [z3] at z2
            have z4 : decide (e0 i = 2) = true ∨ (decide (e0 i = 2) = false ∧ decide (e0 i = 3) = true) := by
              rcases z2 with z | z | z
              · cases z
              · exact .inl z
              · refine .inr ⟨?_, z⟩
                rw [of_decide_eq_true z]
                rfl
            rcases z4 with z5 | ⟨z5, z6⟩
            · simp only [t9_1, h9_1, junks, pl9, ΓT1, ΓV1, onHap1, preHap1, decV1, hU0_1, tU1, lS, eWs, cK, cM, decC2, ivn, lix, lof, lln, el0, el1, el2, hd1, cellOf, lstN, lstF, nodupB, ren, rens, encC, eW, hW1, bN, lN, decN2, lg, Cen.eta, Nod.eta, cast1, onNat, allN, sigN, decN, encN, etaL1 w (hdn 1 (by decide) (by decide)) (hdn 2 (by decide) (by decide)), hlt', c0, c1, hw, hfit, hb0, hb1, hkk, z1, z3, z5, ri, rb, renB, rens, ren, sig, subH, updH, ↓engE, drawE_mk, eng, litSt, srunA_nil, srunA_b, stepR, contB_mk, r0, r1, r2, regC, sop, unw, strip, sev, tg, tset, tput, needs, opNeeds, sBin, ibin, shiftOp, gb, gslot, gdst, onth, wants, sPick, selC, sLoad, sStore, sExtract, sField, sIndex, sLen, sCall, sBuiltin, sConv, cellsAt, roCells, hget, hset, hd1, vcells, one, splice, drawSt, preL, chkL, stp, nxtB_mk, pref_0, pref_b, allocOp, holes, lg, List.length_cons, List.length_nil, List.cons_append, List.nil_append, List.append_nil, List.map_cons, List.map_nil, List.take_succ_cons, List.take_zero, List.take_nil, List.drop_succ_cons, List.drop_zero, List.drop_nil, List.all_cons, List.all_nil, List.contains_cons, List.contains_nil, List.getElem?_cons_zero, List.getElem?_cons_succ, true_and, and_self, or_true, implies_true, imp_self, not_false_eq_true, eq_self, ne_eq, Bool.true_eq_false, Bool.false_eq_true, Bool.not_true, Bool.not_false, Bool.and_false, Bool.or_false, Bool.and_self, Bool.cond_true, Bool.cond_false, decide_true, Nat.zero_add, Nat.add_zero, Nat.le_refl, Int.toNat_natCast, Int.toNat_zero, Int.natCast_nonneg, Option.getD_some, Option.isSome_some, reduceCtorEq, Value.oneCell', ↓reduceIte, Nat.reduceAdd, Nat.reduceSub, Nat.reduceLT, Nat.reduceLeDiff, Nat.reduceBEq, Int.reduceLT, Int.reduceLE, Int.reduceEq, ti3, tk5, ta5, ti5, tk30, ts30, ta30, te70, tk71, ta71, te71, tk75, ts75, ta75, tf75_1, tk80, ts80, ta80, tf80_0, tf80_1]
              refine hN (some [0, 1, 2, 3, 10, 5, 6, 7, 11, 9]) (i + 1, w.step 1 (e0 i) (e1 i)) _ _ ⟨by simp only; omega, r⟩ (by simp only; omega) ?_
              simp only [NwO, Nw, t9_1, h9_1, hW1, encC, bN, lN, lg, junks, ri, rb, Int.natCast_add, Int.natCast_one, NwO, Nw, wk, renJ, renJs, mvH, hgetO, memB, posG, jp, renJB, renJEnts, vwks, vwk1, hwk, bwk, sc, scs, scEnts, lg, List.length_cons, List.length_nil, List.cons_append, List.nil_append, List.take_zero, true_and, and_true, and_self, implies_true, eq_self, Bool.and_self, decide_true, decide_false, Nat.zero_add, Nat.le_refl, reduceCtorEq, Nat.reduceAdd, Nat.reduceLT, Nat.reduceLeDiff, Nat.reduceEqDiff] <;> (and_intros <;> first | rfl | (intro k hk; (rcases k with _ | _ | _ | k <;> first | rfl | omega)))
            · simp only [t9_1, h9_1, junks, pl9, ΓT1, ΓV1, onHap1, preHap1, decV1, hU0_1, tU1, lS, eWs, cK, cM, decC2, ivn, lix, lof, lln, el0, el1, el2, hd1, cellOf, lstN, lstF, nodupB, ren, rens, encC, eW, hW1, bN, lN, decN2, lg, Cen.eta, Nod.eta, cast1, onNat, allN, sigN, decN, encN, etaL1 w (hdn 1 (by decide) (by decide)) (hdn 2 (by decide) (by decide)), hlt', c0, c1, hw, hfit, hb0, hb1, hkk, z1, z3, z5, z6, ri, rb, renB, rens, ren, sig, subH, updH, ↓engE, drawE_mk, eng, litSt, srunA_nil, srunA_b, stepR, contB_mk, r0, r1, r2, regC, sop, unw, strip, sev, tg, tset, tput, needs, opNeeds, sBin, ibin, shiftOp, gb, gslot, gdst, onth, wants, sPick, selC, sLoad, sStore, sExtract, sField, sIndex, sLen, sCall, sBuiltin, sConv, cellsAt, roCells, hget, hset, hd1, vcells, one, splice, drawSt, preL, chkL, stp, nxtB_mk, pref_0, pref_b, allocOp, holes, lg, List.length_cons, List.length_nil, List.cons_append, List.nil_append, List.append_nil, List.map_cons, List.map_nil, List.take_succ_cons, List.take_zero, List.take_nil, List.drop_succ_cons, List.drop_zero, List.drop_nil, List.all_cons, List.all_nil, List.contains_cons, List.contains_nil, List.getElem?_cons_zero, List.getElem?_cons_succ, true_and, and_self, or_true, implies_true, not_false_eq_true, eq_self, ne_eq, Bool.true_eq_false, Bool.false_eq_true, Bool.not_true, Bool.not_false, Bool.or_false, Bool.and_self, Bool.cond_true, Bool.cond_false, decide_true, Nat.zero_add, Nat.add_zero, Nat.le_refl, Int.toNat_natCast, Int.toNat_zero, Int.natCast_nonneg, Option.getD_some, Option.isSome_some, reduceCtorEq, Value.oneCell', ↓reduceIte, Nat.reduceAdd, Nat.reduceSub, Nat.reduceLT, Nat.reduceLeDiff, Nat.reduceBEq, Int.reduceLT, Int.reduceLE, Int.reduceEq, ti3, tk5, ta5, ti5, tk30, ts30, ta30, te70, tk71, ta71, te71, tk75, ts75, ta75, tf75_1, tk80, ts80, ta80, tf80_0, tf80_1]
              refine hN (some [0, 1, 2, 3, 10, 5, 6, 7, 11, 9]) (i + 1, w.step 1 (e0 i) (e1 i)) _ _ ⟨by simp only; omega, r⟩ (by simp only; omega) ?_
              simp only [NwO, Nw, t9_1, h9_1, hW1, encC, bN, lN, lg, junks, ri, rb, Int.natCast_add, Int.natCast_one, NwO, Nw, wk, renJ, renJs, mvH, hgetO, memB, posG, jp, renJB, renJEnts, vwks, vwk1, hwk, bwk, sc, scs, scEnts, lg, List.length_cons, List.length_nil, List.cons_append, List.nil_append, List.take_zero, true_and, and_true, and_self, implies_true, eq_self, Bool.and_self, decide_true, decide_false, Nat.zero_add, Nat.le_refl, reduceCtorEq, Nat.reduceAdd, Nat.reduceLT, Nat.reduceLeDiff, Nat.reduceEqDiff] <;> (and_intros <;> first | rfl | (intro k hk; (rcases k with _ | _ | _ | k <;> first | rfl | omega)))
end Go.Proofs.Ytmnpnnegnlhemaa.Eng
namespace Go.Proofs.Ytmnpnnegnlhemaa.Eng
open Go

def t9_2 (v : Value) (nd T : Int) (i : Nat) : List SV := [.junk, .raw v, .raw (.int .u8 nd), .junk, .junk, .junk, .junk, .ptr 11 0, .raw (.bool true), ri T, ri (i : Int)] ++ junks 194
def h9_2 (w : Wd) : List AB := hW2 w ++ [.cells [.ptr 0 0, .lst 3 1 0 2, .lst 4 3 0 w.sl, .lst 5 1 0 2, .lst 6 1 0 2, ri w.slow] 75]
/-- A world, a word, and the node that it is of. -/
def hT2 (k : Nat) (w : Wd) (slow a n m : Int) (s : Nat) : List AB := hW2 w ++ [.cells [.ptr 0 0, .lst 3 1 0 2, .lst 4 3 0 s, .lst 5 1 0 2, .lst 6 1 0 2, ri slow] 75, .cells [ri a, ri n, ri m] 41, .cells [.ptr k 0] 30]
theorem again_20 (w : Wd) (a n m : Int) : w.again 0 a n m = match decide (a = 2) with
    | true => { w with x0 := w.x0.hear a n m }
    | false => { w with c := w.c.hear a n m } := rfl
set_option maxHeartbeats 1000000 in
set_option maxRecDepth 100000 in
theorem ok43_20 (E : Addr → Option Value) (w : Wd) (a n m slow : Int) (s : Nat) (hx : w.x0.len ≤ 1000000) : Ok Try.prog E 43 [.ptr 12 0, .ptr 13 0, .ptr 11 0] (hT2 7 w slow a n m s) (.tup []) (hT2 7 (w.again 0 a n m) slow a n m s) := by
  refine ok_of_eng (pl := pl43) mixed (ΓV2_sound E) Try.func43 rfl rfl (by kernel_rfl) (by simp [hT2, hW2, encC]) 100 (fun F hF => ?_)
  cases hk : decide (a = 2) with
  | true =>
    simp only [Try.f43, pl43, ΓV2, hT2, hk, hx, cK, cM, ivn, lix, lof, lln, el0, el1, hd1, cellOf, lstF, nodupB, ren, rens, encC, hW2, bN, lN, decN2, lg, Nod.eta, onNat, sigN, decN, encN, Nod.room, ri, rb, renB, rens, ren, sig, subH, updH, eng, litSt, srunA_nil, srunA_b, stepR, contB_mk, r0, regC, sop, unw, strip, sev, tg, tset, tput, undefs, needs, opNeeds, sBin, ibin, shiftOp, selC, sLoad, sField, sCall, cellsAt, hget, hset, hd1, lg, List.length_cons, List.length_nil, List.cons_append, List.nil_append, List.append_nil, List.map_cons, List.map_nil, List.take_succ_cons, List.take_zero, List.take_nil, List.drop_zero, List.contains_cons, List.contains_nil, List.getElem?_cons_zero, List.getElem?_cons_succ, true_and, and_self, or_true, not_false_eq_true, eq_self, ne_eq, Bool.false_eq_true, Bool.not_false, Bool.or_false, Bool.and_self, Nat.zero_add, Nat.add_zero, Nat.le_refl, Option.getD_some, reduceCtorEq, Nat.reduceAdd, Nat.reduceSub, Nat.reduceLT, Nat.reduceLeDiff, Nat.reduceBEq, tk3, ta3, tk30, ta30, tk41, ts41, ta41, tf41_0]
    exact hF _ _ _ ⟨trivial, by simp only [Try.f43, hT2, again_20, hk, hW2, encC, bN, lN, lg, ri, rb, retP, sResults, retV, vwk, vwks, vwk1, hwk, bwk, sc, scs, scEnts, lg, List.length_cons, List.length_nil, List.cons_append, List.nil_append, true_and, and_true, and_self, implies_true, eq_self, Bool.and_self, decide_true, Nat.zero_add, Nat.le_refl, Nat.reduceAdd, Nat.reduceLT] <;> (and_intros <;> first | rfl | (intro k hk; (rcases k with _ | _ | _ | k <;> first | rfl | omega)))⟩
  | false =>
    simp only [Try.f43, pl43, ΓV2, hT2, hk, cK, onK, decC2, ivn, hd1, cellOf, lstN, lstF, encC, hW2, bN, lN, lg, Cen.eta, says_word, ri, rb, eng, litSt, srunA_nil, srunA_b, stepR, contB_mk, r0, regC, sop, unw, strip, sev, tg, tset, tput, undefs, needs, opNeeds, sBin, ibin, shiftOp, selC, sLoad, sField, sCall, cellsAt, hget, hd1, lg, List.length_cons, List.length_nil, List.cons_append, List.nil_append, List.map_cons, List.map_nil, List.take_succ_cons, List.take_zero, List.take_nil, List.drop_succ_cons, List.drop_zero, true_and, and_self, or_true, not_false_eq_true, eq_self, ne_eq, Bool.false_eq_true, Nat.zero_add, Nat.add_zero, Nat.le_refl, reduceCtorEq, Nat.reduceAdd, Nat.reduceSub, Nat.reduceLeDiff, tk3, ta3, tk27, ta27, tk41, ts41, ta41, tf41_0, tf75_0]
    exact hF _ _ _ ⟨trivial, by simp only [Try.f43, hT2, again_20, hk, hW2, encC, bN, lN, lg, ri, rb, retP, sResults, retV, vwk, vwks, vwk1, hwk, bwk, sc, scs, scEnts, lg, List.length_cons, List.length_nil, List.cons_append, List.nil_append, true_and, and_true, and_self, implies_true, eq_self, Bool.and_self, decide_true, Nat.zero_add, Nat.le_refl, Nat.reduceAdd, Nat.reduceLT] <;> (and_intros <;> first | rfl | (intro k hk; (rcases k with _ | _ | _ | k <;> first | rfl | omega)))⟩
theorem again_21 (w : Wd) (a n m : Int) : w.again 1 a n m = match decide (a = 2) with
    | true => { w with x1 := w.x1.hear a n m }
    | false => { w with c := w.c.hear a n m } := rfl
set_option maxHeartbeats 1000000 in
set_option maxRecDepth 100000 in
theorem ok43_21 (E : Addr → Option Value) (w : Wd) (a n m slow : Int) (s : Nat) (hx : w.x1.len ≤ 1000000) : Ok Try.prog E 43 [.ptr 12 0, .ptr 13 0, .ptr 11 0] (hT2 9 w slow a n m s) (.tup []) (hT2 9 (w.again 1 a n m) slow a n m s) := by
  refine ok_of_eng (pl := pl43) mixed (ΓV2_sound E) Try.func43 rfl rfl (by kernel_rfl) (by simp [hT2, hW2, encC]) 100 (fun F hF => ?_)
  cases hk : decide (a = 2) with
  | true =>
    simp only [Try.f43, pl43, ΓV2, hT2, hk, hx, cK, cM, ivn, lix, lof, lln, el0, el1, hd1, cellOf, lstF, nodupB, ren, rens, encC, hW2, bN, lN, decN2, lg, Nod.eta, onNat, sigN, decN, encN, Nod.room, ri, rb, renB, rens, ren, sig, subH, updH, eng, litSt, srunA_nil, srunA_b, stepR, contB_mk, r0, regC, sop, unw, strip, sev, tg, tset, tput, undefs, needs, opNeeds, sBin, ibin, shiftOp, selC, sLoad, sField, sCall, cellsAt, hget, hset, hd1, lg, List.length_cons, List.length_nil, List.cons_append, List.nil_append, List.append_nil, List.map_cons, List.map_nil, List.take_succ_cons, List.take_zero, List.take_nil, List.drop_zero, List.contains_cons, List.contains_nil, List.getElem?_cons_zero, List.getElem?_cons_succ, true_and, and_self, or_true, not_false_eq_true, eq_self, ne_eq, Bool.false_eq_true, Bool.not_false, Bool.or_false, Bool.and_self, Nat.zero_add, Nat.add_zero, Nat.le_refl, Option.getD_some, reduceCtorEq, Nat.reduceAdd, Nat.reduceSub, Nat.reduceLT, Nat.reduceLeDiff, Nat.reduceBEq, tk3, ta3, tk30, ta30, tk41, ts41, ta41, tf41_0]
    exact hF _ _ _ ⟨trivial, by simp only [Try.f43, hT2, again_21, hk, hW2, encC, bN, lN, lg, ri, rb, retP, sResults, retV, vwk, vwks, vwk1, hwk, bwk, sc, scs, scEnts, lg, List.length_cons, List.length_nil, List.cons_append, List.nil_append, true_and, and_true, and_self, implies_true, eq_self, Bool.and_self, decide_true, Nat.zero_add, Nat.le_refl, Nat.reduceAdd, Nat.reduceLT] <;> (and_intros <;> first | rfl | (intro k hk; (rcases k with _ | _ | _ | k <;> first | rfl | omega)))⟩
  | false =>
    simp only [Try.f43, pl43, ΓV2, hT2, hk, cK, onK, decC2, ivn, hd1, cellOf, lstN, lstF, encC, hW2, bN, lN, lg, Cen.eta, says_word, ri, rb, eng, litSt, srunA_nil, srunA_b, stepR, contB_mk, r0, regC, sop, unw, strip, sev, tg, tset, tput, undefs, needs, opNeeds, sBin, ibin, shiftOp, selC, sLoad, sField, sCall, cellsAt, hget, hd1, lg, List.length_cons, List.length_nil, List.cons_append, List.nil_append, List.map_cons, List.map_nil, List.take_succ_cons, List.take_zero, List.take_nil, List.drop_succ_cons, List.drop_zero, true_and, and_self, or_true, not_false_eq_true, eq_self, ne_eq, Bool.false_eq_true, Nat.zero_add, Nat.add_zero, Nat.le_refl, reduceCtorEq, Nat.reduceAdd, Nat.reduceSub, Nat.reduceLeDiff, tk3, ta3, tk27, ta27, tk41, ts41, ta41, tf41_0, tf75_0]
    exact hF _ _ _ ⟨trivial, by simp only [Try.f43, hT2, again_21, hk, hW2, encC, bN, lN, lg, ri, rb, retP, sResults, retV, vwk, vwks, vwk1, hwk, bwk, sc, scs, scEnts, lg, List.length_cons, List.length_nil, List.cons_append, List.nil_append, true_and, and_true, and_self, implies_true, eq_self, Bool.and_self, decide_true, Nat.zero_add, Nat.le_refl, Nat.reduceAdd, Nat.reduceLT] <;> (and_intros <;> first | rfl | (intro k hk; (rcases k with _ | _ | _ | k <;> first | rfl | omega)))⟩
theorem renT2 (τ : Nat → Nat) (k : Nat) (hk : τ k = k) (t1 : ∀ j, j < 14 → τ j = j) (w : Wd) (slow a n m : Int) (s : Nat) : (hT2 k w slow a n m s).map (renB τ) = hT2 k w slow a n m s := by
  unfold hT2
  rw [List.map_append, renW2 τ (fun j hj => t1 j (by omega)) w]
  simp only [List.map_cons, List.map_nil, renB, rens, ren, ri, hk, t1 0 (by decide), t1 3 (by decide), t1 4 (by decide), t1 5 (by decide), t1 6 (by decide)]
theorem hwk_hT2 (k : Nat) (hk : k < 14) (w : Wd) (slow a n m : Int) (s : Nat) : hwk (hT2 k w slow a n m s).length (hT2 k w slow a n m s) (hT2 k w slow a n m s) := by
  have hk' : decide (k < 14) = true := by simpa using hk
  simp only [hT2, hW2, encC, bN, lN, ri, rb, hk, vwks, vwk1, hwk, bwk, sc, scs, scEnts, lg, List.length_cons, List.length_nil, List.cons_append, List.nil_append, true_and, and_true, and_self, implies_true, eq_self, Bool.and_self, decide_true, Nat.zero_add, Nat.le_refl, Nat.reduceAdd, Nat.reduceLT] <;> (and_intros <;> first | rfl | (intro k hk; (rcases k with _ | _ | _ | k <;> first | rfl | omega)))
/-- The closure of the law: the word is heard. -/
def on43_2 (H : List AB) : Res := match pix (cellOf (hget H 13) 0) with
  | 7 => ⟨(pix (cellOf (hget H 13) 0) = 7 ∧ H = hT2 7 (decV2 H (csOf (hget H 11))) (ivn (cellOf (hget H 11) 5)) (ivn (cellOf (hget H 12) 0)) (ivn (cellOf (hget H 12) 1)) (ivn (cellOf (hget H 12) 2)) (lln (cellOf (hget H 11) 2)) ++ H.drop 14) ∧ (decV2 H (csOf (hget H 11))).x0.len ≤ 1000000, .tup [], hT2 7 ((decV2 H (csOf (hget H 11))).again 0 (ivn (cellOf (hget H 12) 0)) (ivn (cellOf (hget H 12) 1)) (ivn (cellOf (hget H 12) 2))) (ivn (cellOf (hget H 11) 5)) (ivn (cellOf (hget H 12) 0)) (ivn (cellOf (hget H 12) 1)) (ivn (cellOf (hget H 12) 2)) (lln (cellOf (hget H 11) 2)) ++ H.drop 14⟩
  | _ => ⟨(pix (cellOf (hget H 13) 0) = 9 ∧ H = hT2 9 (decV2 H (csOf (hget H 11))) (ivn (cellOf (hget H 11) 5)) (ivn (cellOf (hget H 12) 0)) (ivn (cellOf (hget H 12) 1)) (ivn (cellOf (hget H 12) 2)) (lln (cellOf (hget H 11) 2)) ++ H.drop 14) ∧ (decV2 H (csOf (hget H 11))).x1.len ≤ 1000000, .tup [], hT2 9 ((decV2 H (csOf (hget H 11))).again 1 (ivn (cellOf (hget H 12) 0)) (ivn (cellOf (hget H 12) 1)) (ivn (cellOf (hget H 12) 2))) (ivn (cellOf (hget H 11) 5)) (ivn (cellOf (hget H 12) 0)) (ivn (cellOf (hget H 12) 1)) (ivn (cellOf (hget H 12) 2)) (lln (cellOf (hget H 11) 2)) ++ H.drop 14⟩
theorem on43_2_sound {E : Addr → Option Value} {H : List AB} (h : (on43_2 H).pre) : Ok Try.prog E 43 [.ptr 12 0, .ptr 13 0, .ptr 11 0] H (on43_2 H).val (on43_2 H).heap := by
  unfold on43_2 at h ⊢
  split at h
  · obtain ⟨⟨_, h1⟩, h2⟩ := h
    have h1' : H = hT2 7 (decV2 H (csOf (hget H 11))) (ivn (cellOf (hget H 11) 5)) (ivn (cellOf (hget H 12) 0)) (ivn (cellOf (hget H 12) 1)) (ivn (cellOf (hget H 12) 2)) (lln (cellOf (hget H 11) 2)) ++ H.drop 14 := h1
    show Ok Try.prog E 43 [.ptr 12 0, .ptr 13 0, .ptr 11 0] H (.tup []) (hT2 7 ((decV2 H (csOf (hget H 11))).again 0 (ivn (cellOf (hget H 12) 0)) (ivn (cellOf (hget H 12) 1)) (ivn (cellOf (hget H 12) 2))) (ivn (cellOf (hget H 11) 5)) (ivn (cellOf (hget H 12) 0)) (ivn (cellOf (hget H 12) 1)) (ivn (cellOf (hget H 12) 2)) (lln (cellOf (hget H 11) 2)) ++ H.drop 14)
    have key := ok43_20 E (decV2 H (csOf (hget H 11))) (ivn (cellOf (hget H 12) 0)) (ivn (cellOf (hget H 12) 1)) (ivn (cellOf (hget H 12) 2)) (ivn (cellOf (hget H 11) 5)) (lln (cellOf (hget H 11) 2)) h2
    revert key
    revert h1'
    generalize H.drop 14 = X
    generalize (decV2 H (csOf (hget H 11))) = w
    generalize ivn (cellOf (hget H 12) 0) = a
    generalize ivn (cellOf (hget H 12) 1) = n
    generalize ivn (cellOf (hget H 12) 2) = m
    generalize ivn (cellOf (hget H 11) 5) = sw
    generalize lln (cellOf (hget H 11) 2) = s
    intro h1' key
    rw [h1']
    have := Ok.first 14 (A := hT2 7 w sw a n m s) (B := hT2 7 (w.again 0 a n m) sw a n m s) (N := []) (by rw [List.append_nil]; exact key) X rfl rfl (fun τ t1 _ => ⟨by simp only [rens, ren, t1 11 (by decide), t1 12 (by decide), t1 13 (by decide)], renT2 τ 7 (t1 7 (by decide)) t1 _ _ _ _ _ _, renT2 τ 7 (t1 7 (by decide)) t1 _ _ _ _ _ _⟩) (by decide) (hwk_hT2 7 (by decide) _ _ _ _ _ _)
    simpa [ren, rens] using this
  · obtain ⟨⟨_, h1⟩, h2⟩ := h
    have h1' : H = hT2 9 (decV2 H (csOf (hget H 11))) (ivn (cellOf (hget H 11) 5)) (ivn (cellOf (hget H 12) 0)) (ivn (cellOf (hget H 12) 1)) (ivn (cellOf (hget H 12) 2)) (lln (cellOf (hget H 11) 2)) ++ H.drop 14 := h1
    show Ok Try.prog E 43 [.ptr 12 0, .ptr 13 0, .ptr 11 0] H (.tup []) (hT2 9 ((decV2 H (csOf (hget H 11))).again 1 (ivn (cellOf (hget H 12) 0)) (ivn (cellOf (hget H 12) 1)) (ivn (cellOf (hget H 12) 2))) (ivn (cellOf (hget H 11) 5)) (ivn (cellOf (hget H 12) 0)) (ivn (cellOf (hget H 12) 1)) (ivn (cellOf (hget H 12) 2)) (lln (cellOf (hget H 11) 2)) ++ H.drop 14)
    have key := ok43_21 E (decV2 H (csOf (hget H 11))) (ivn (cellOf (hget H 12) 0)) (ivn (cellOf (hget H 12) 1)) (ivn (cellOf (hget H 12) 2)) (ivn (cellOf (hget H 11) 5)) (lln (cellOf (hget H 11) 2)) h2
    revert key
    revert h1'
    generalize H.drop 14 = X
    generalize (decV2 H (csOf (hget H 11))) = w
    generalize ivn (cellOf (hget H 12) 0) = a
    generalize ivn (cellOf (hget H 12) 1) = n
    generalize ivn (cellOf (hget H 12) 2) = m
    generalize ivn (cellOf (hget H 11) 5) = sw
    generalize lln (cellOf (hget H 11) 2) = s
    intro h1' key
    rw [h1']
    have := Ok.first 14 (A := hT2 9 w sw a n m s) (B := hT2 9 (w.again 1 a n m) sw a n m s) (N := []) (by rw [List.append_nil]; exact key) X rfl rfl (fun τ t1 _ => ⟨by simp only [rens, ren, t1 11 (by decide), t1 12 (by decide), t1 13 (by decide)], renT2 τ 9 (t1 9 (by decide)) t1 _ _ _ _ _ _, renT2 τ 9 (t1 9 (by decide)) t1 _ _ _ _ _ _⟩) (by decide) (hwk_hT2 9 (by decide) _ _ _ _ _ _)
    simpa [ren, rens] using this
def ΓT2 : Con := fun f args H => match f with
  | .func 43 => match args with
    | [.ptr 12 0, .ptr 13 0, .ptr 11 0] => on43_2 H
    | _ => no
  | f => ΓV2 f args H
theorem ΓT2_sound (E : Addr → Option Value) : Con.Sound Try.prog E ΓT2 := by
  intro f args H h
  unfold ΓT2 at h ⊢
  split at h
  · split at h
    · exact on43_2_sound h
    · exact h.elim
  · exact ΓV2_sound E f args H h
def t9b_20 (nd : Int) (i : Nat) : List SV := [.junk, .junk, .raw (.int .u8 nd), .junk, .junk, .junk, .junk, .ptr 11 0, .junk, .junk, .junk, .junk, .junk, .junk, .junk, .junk, .ptr 12 0, .ptr 13 0, .fn (.func 43) [] [.ptr 12 0, .ptr 13 0, .ptr 11 0], ri (i : Int)] ++ junks 185
theorem round_20 (w : Wd) : w.round 0 = { w with x0 := w.x0.tk.ask, c := w.c.tick } := rfl
def t9b_21 (nd : Int) (i : Nat) : List SV := [.junk, .junk, .raw (.int .u8 nd), .junk, .junk, .junk, .junk, .ptr 11 0, .junk, .junk, .junk, .junk, .junk, .junk, .junk, .junk, .ptr 12 0, .ptr 13 0, .fn (.func 43) [] [.ptr 12 0, .ptr 13 0, .ptr 11 0], ri (i : Int)] ++ junks 185
theorem round_21 (w : Wd) : w.round 1 = { w with x1 := w.x1.tk.ask, c := w.c.tick } := rfl
set_option maxHeartbeats 8000000 in
set_option maxRecDepth 100000 in
theorem ok9_2 (E : Addr → Option Value) (a b c nd : Int) (aa : Option Addr) (n cap : Nat) (e0 e1 : Nat → Int) (hE : Evts E aa n e0 e1) (ha : (IntKind.i64.wrap a).tmod 3 = 1) (hb : 0 ≤ b ∧ b < 256) (hc : 0 ≤ c ∧ c < 256) (hnd : 0 ≤ nd ∧ nd < 256) :
    Ok Try.prog E 9 [.agg [.raw (.int .u8 a), .raw (.int .u8 b), .raw (.int .u8 c)], .raw (.slice aa n cap), .raw (.int .u8 nd)] [] (rb true) [] := by
  refine ok_of_eng (pl := pl9) mixed (ΓT2_sound E) Try.func9 rfl rfl (by kernel_rfl) (by simp) 300 (fun F hF => ?_)
  cases hn : decide ((400 : Int) < n) with
  | true =>
    simp only [Try.f9, pl9, ΓT2, ΓV2, c16, hn, eng, litSt, srunA_nil, srunA_b, stepR, contB_mk, r0, regC, sop, unw, strip, sev, tg, tset, tput, undefs, needs, opNeeds, sBin, ibin, shiftOp, selC, sLen, sBox, sCall, sBuiltin, vcells, one, holeAt, idxAt, pushAt, List.length_cons, List.length_nil, List.cons_append, List.nil_append, List.map_cons, List.map_nil, List.all_cons, List.all_nil, true_and, and_self, or_true, eq_self, Bool.false_eq_true, Bool.and_self, Nat.zero_add, Value.oneCell', Nat.reduceAdd, Nat.reduceSub, te70]
    exact hF _ _ _ ⟨trivial, by simp only [Try.f9, rb, retP, sResults, sRes1, resK, retV, vwk, vwk1, hwk, sc, tg, List.length_nil, and_self, eq_self, Nat.le_refl]⟩
  | false =>
    have hn' : n ≤ 400 := by simp at hn; omega
    have hT := lT_le hb
    have hS := lS0_le hc
    have hT' : 1 ≤ lT b ∧ lT b ≤ 12 := ⟨hT.1, hT.2.1⟩
    have hT0 : IntKind.i64.wrap (1 + (IntKind.i64.wrap b).tmod 12) = lT b := rfl
    have hl : layOk2 a b c = True := eq_true ⟨ha, cenOk_of (by decide) hT' hS, nodeOk_of (by decide) hT', nodeOk_of (by decide) hT'⟩
    simp only [Try.f9, pl9, ΓT2, ΓV2, c40_2, hl, hT0, eW0_2, w0_2, newC, newN, hn, hd1, ren, rens, encC, hW2, bN, lN, lg, cast3, ri, rb, renB, rens, ren, renEnts, sig, updH, eng, litSt, srunA_nil, srunA_b, stepR, contB_mk, r0, regC, sop, unw, strip, sev, tg, tset, tput, undefs, needs, opNeeds, sBin, ibin, shiftOp, selC, sLoad, sStore, sExtract, sIndex, sLen, sNew, sAlloc, sBox, sCall, sBuiltin, sConv, cellsAt, hget, hset, hd1, vcells, one, splice, holeAt, idxAt, pushAt, lg, List.length_cons, List.length_nil, List.cons_append, List.nil_append, List.append_nil, List.map_cons, List.map_nil, List.take_succ_cons, List.take_zero, List.take_nil, List.drop_succ_cons, List.drop_zero, List.drop_nil, List.all_cons, List.all_nil, List.getElem?_cons_zero, List.getElem?_cons_succ, List.getElem?_nil, true_and, and_self, or_true, not_false_eq_true, eq_self, ne_eq, Bool.false_eq_true, Bool.and_self, Nat.zero_add, Nat.add_zero, Nat.mul_one, Nat.sub_zero, Nat.le_refl, Option.getD_none, Value.oneCell', Nat.reduceAdd, Nat.reduceSub, Nat.reduceLeDiff, Int.reduceLT, Int.reduceLE, Int.reduceEq, Int.reduceToNat, ti3, tk5, ts5, ta5, ti5, tk69, ts69, ta69, tr69, te70, tk75, ts75, tz75]
    refine ⟨Nat × Wd, fun x => t9_2 (.slice aa n cap) nd (lT b) x.1, fun x => h9_2 x.2, fun x => x.1 ≤ n ∧ Run 2 (lT b) (lS0 c) x.1 x.2, fun x => n - x.1, (0, w0_2 (lT b) (lS0 c)), ⟨Nat.zero_le _, run0_2 hT' hS⟩, ⟨some [1, 2, 3, 4, 5, 6, 7, 8, 9, 10, 11, 12], ?_⟩, ?_⟩
    · simp only [NwO, Nw, t9_2, h9_2, w0_2, newC, newN, hW2, encC, bN, lN, lg, junks, ri, rb, Int.natCast_zero, NwO, Nw, wk, renJ, renJs, mvH, hgetO, memB, posG, jp, renJB, renJEnts, vwks, vwk1, hwk, bwk, sc, scs, scEnts, lg, List.length_cons, List.length_nil, List.cons_append, List.nil_append, List.take_zero, true_and, and_true, and_self, implies_true, eq_self, Bool.and_self, decide_true, decide_false, Nat.zero_add, Nat.add_zero, Nat.le_refl, reduceCtorEq, Nat.reduceAdd, Nat.reduceLT, Nat.reduceLeDiff, Nat.reduceEqDiff, Int.reduceToNat] <;> (and_intros <;> first | rfl | (intro k hk; (rcases k with _ | _ | _ | k <;> first | rfl | omega)))
    · rintro ⟨i, w⟩ ⟨hi, hr⟩ F' hN hX
      have hdn := hr.rest
      cases hlt : decide ((i : Int) < n) with
      | false =>
        simp only [t9_2, h9_2, junks, pl9, hlt, ri, eng, litSt, srunA_nil, srunA_b, stepR, contB_mk, r0, r1, r2, regC, sop, unw, strip, sev, tg, tset, tput, needs, opNeeds, sBin, ibin, shiftOp, gb, gslot, gdst, onth, wants, sPick, selC, sLen, sBuiltin, List.cons_append, List.nil_append, List.map_cons, List.map_nil, true_and, and_self, or_true, implies_true, eq_self, Bool.true_eq_false, Bool.false_eq_true, Bool.cond_true, ↓reduceIte, te70]
        refine hX _ _ _ (by simp) ?_
        cases hs : decide ((w.sl : Int) = 0) with
        | true =>
          simp only [popF, pl9, ΓT2, ΓV2, c16, hs, hd1, encC, hW2, bN, lN, lg, ri, rb, eng, litSt, srunA_nil, srunA_b, stepR, contB_mk, r0, regC, sop, unw, strip, sev, tg, tset, tput, needs, opNeeds, sBin, ibin, shiftOp, popF, selC, exitC, sLoad, sField, sLen, sCall, sBuiltin, sUn, cellsAt, hget, hd1, lg, List.length_cons, List.length_nil, List.cons_append, List.nil_append, List.map_cons, List.map_nil, List.take_succ_cons, List.take_zero, List.drop_succ_cons, List.drop_zero, true_and, and_self, or_true, not_false_eq_true, eq_self, ne_eq, Bool.false_eq_true, Bool.not_true, Nat.zero_add, reduceCtorEq, Nat.reduceAdd, Nat.reduceLeDiff, Nat.reduceBEq, tk72, ta72, te72, tf75_2]
          exact hF _ _ _ ⟨trivial, by simp only [Try.f9, rb, retP, sResults, sRes1, resK, retV, vwk, vwk1, hwk, sc, tg, List.length_nil, and_self, eq_self, Nat.le_refl]⟩
        | false =>
          have hs0 : w.sl ≠ 0 := by simpa using hs
          obtain ⟨j, hj⟩ : ∃ j, w.sl = j + 1 := ⟨w.sl - 1, by omega⟩
          have hsl : (w.sl : Int) ≤ (i : Nat) := hr.base.sl
          have hidx : IntKind.i64.wrap ((w.sl : Int) - 1) = (j : Int) := by rw [w64 (by omega) (by omega)]; omega
          have hjl : ((j : Int) < (w.sl : Int)) = True := by simp; omega
          have hb3 : 1 ≤ w.sn j ∧ w.sn j ≤ (2 : Nat) := (hr.base.sent j (show j < w.sl by omega)).2.1
          have hk3 : w.sn j = 1 ∨ w.sn j = 2 := by omega
          rcases hk3 with q | q
          · obtain ⟨hI0, hln⟩ := twice0 (by decide) hT' (by omega) hr (show j < w.sl by omega) (k := 0) (by rw [q]; rfl)
            have q1 : ¬ (w.sn j < 1) := by omega
            have q2 : ¬ (2 < w.sn j) := by omega
            have hww : IntKind.i64.wrap 0 = 0 := by decide
            simp only [Wd.nd, Int.natCast_zero, Int.reduceAdd] at hI0 hln
            generalize hak : w.sk j = ak at *
            generalize hm : w.sm j = m at *
            have hr1 : ∀ k, 2 ≤ k → k < 3 → (w.again 0 ak 1 m).nd k = dN := fun i h1 h3 => by rw [← hr.rest i h1 h3]; exact again_rest w (by omega) _ _ _
            simp only [popF, pl9, ΓT2, on43_2, hT2, csOf, pix, hs, q, hak, hm, hidx, hjl, hww, hln, decV2, decC2, ivn, lof, lln, el0, el1, el2, hd1, cellOf, lstN, lstF, encC, hW2, bN, lN, decN2, lg, Cen.eta, Nod.eta, cast2, etaL2 w (hdn 2 (by decide) (by decide)), ri, rb, eng, litSt, srunA_nil, srunA_b, stepR, contB_mk, r0, r1, r2, regC, sop, unw, strip, sev, tg, tset, tput, needs, opNeeds, sBin, ibin, shiftOp, gb, gslot, gdst, onth, wants, sPick, popF, selC, exitC, sLoad, sStore, sField, sIndex, sLen, sNew, sAlloc, sCall, sBuiltin, sUn, cellsAt, hget, hset, hd1, vcells, one, splice, holeAt, idxAt, pushAt, lg, List.length_cons, List.length_nil, List.cons_append, List.nil_append, List.append_nil, List.map_cons, List.map_nil, List.take_succ_cons, List.take_zero, List.take_nil, List.drop_succ_cons, List.drop_zero, List.drop_nil, List.all_cons, List.all_nil, true_and, and_true, and_self, or_true, implies_true, not_false_eq_true, eq_self, ne_eq, Bool.false_eq_true, Bool.not_true, Bool.not_false, Bool.and_self, Bool.cond_false, decide_false, Nat.zero_add, Nat.add_zero, Nat.le_refl, Int.toNat_natCast, Int.toNat_zero, Int.natCast_nonneg, reduceCtorEq, Value.oneCell', ↓reduceIte, Nat.reduceAdd, Nat.reduceLT, Nat.reduceLeDiff, Nat.reduceBEq, Int.reduceLT, Int.reduceLE, Int.reduceSub, tk3, ta3, tk30, ts30, ta30, tz30, tk41, ts41, ta41, tz41, tf41_1, tk71, ta71, te71, tk72, ta72, te72, tf75_1, tf75_2]
            have h5 := tmod_lt hnd.1 (show (0 : Int) < 5 by decide)
            rw [← wrap_byte hnd.1 hnd.2] at h5
            refine ⟨(show j < w.sl by omega), Nat × Wd, fun x => t9b_20 nd x.1, fun x => hT2 7 x.2 x.2.slow ak 1 m x.2.sl, fun x => (TwI 2 0 (lT b) ak m x.1 x.2 ∧ (∀ i, 2 ≤ i → i < 3 → x.2.nd i = dN)) ∧ (x.1 : Int) ≤ (IntKind.i64.wrap nd).tmod 5, fun x => 5 - x.1, (0, w.again 0 ak 1 m), ⟨⟨hI0, hr1⟩, by simp only; omega⟩, ⟨none, ?_⟩, ?_⟩
            · simp only [NwO, Nw, t9b_20, hT2, again_sl, again_slow, hW2, encC, bN, lN, lg, junks, ri, rb, Int.natCast_zero, NwO, Nw, wk, vwks, vwk1, hwk, bwk, sc, scs, scEnts, lg, List.length_cons, List.length_nil, List.cons_append, List.nil_append, true_and, and_true, and_self, implies_true, eq_self, Bool.and_self, decide_true, Nat.zero_add, Nat.le_refl, Nat.reduceAdd, Nat.reduceLT, Nat.reduceLeDiff] <;> (and_intros <;> first | rfl | (intro k hk; (rcases k with _ | _ | _ | k <;> first | rfl | omega)))
            · rintro ⟨j2, u⟩ ⟨⟨hy, hyr⟩, hj2⟩ F3 hN3 hX3
              have hyl : u.x0.len ≤ 1000000 := by have := hy.nod.len; have := hy.hj; simp only [Wd.nd] at *; omega
              cases hlt2 : decide ((j2 : Int) < (IntKind.i64.wrap nd).tmod 5) with
              | true =>
                have hl5 : (j2 : Int) < (IntKind.i64.wrap nd).tmod 5 := of_decide_eq_true hlt2
                have hw2 : IntKind.i64.wrap ((j2 : Int) + 1) = j2 + 1 := wrap1 (by omega) (by omega)
                have hyl2 : u.x0.tk.len ≤ 1000000 := hyl
                simp only [t9b_20, hT2, junks, pl9, ΓT2, ΓV2, hlt2, hw2, hyl2, cK, onK, cM, decC2, ivn, lix, lof, lln, el0, el1, hd1, cellOf, lstN, lstF, nodupB, ren, rens, encC, hW2, bN, lN, decN2, lg, Cen.eta, Nod.eta, onNat, allN, sigN, decN, encN, encN2, Nod.room, ask_word, ri, rb, renB, rens, ren, sig, subH, updH, eng, litSt, srunA_nil, srunA_b, stepR, contB_mk, r0, regC, sop, unw, strip, sev, tg, tset, tput, needs, opNeeds, sBin, ibin, shiftOp, selC, sLoad, sField, sCall, sConv, cellsAt, hget, hset, hd1, lg, List.length_cons, List.length_nil, List.cons_append, List.nil_append, List.append_nil, List.map_cons, List.map_nil, List.take_succ_cons, List.take_zero, List.take_nil, List.drop_succ_cons, List.drop_zero, List.contains_cons, List.contains_nil, List.getElem?_cons_zero, List.getElem?_cons_succ, List.getElem?_nil, true_and, and_self, or_true, not_false_eq_true, eq_self, ne_eq, Bool.false_eq_true, Bool.not_false, Bool.or_false, Bool.and_self, Nat.zero_add, Nat.add_zero, Nat.le_refl, Option.getD_some, Option.getD_none, reduceCtorEq, Nat.reduceAdd, Nat.reduceSub, Nat.reduceLT, Nat.reduceLeDiff, Nat.reduceBEq, Int.reduceEq, ti3, ti5, tk27, ta27, tk30, ta30, tf75_0]
                refine hN3 (some [0, 1, 2, 3, 4, 5, 6, 7, 14, 9, 10, 11, 12, 13]) (j2 + 1, u.round 0) _ _ ⟨⟨hy.step (by omega), fun i h1 h3 => by rw [← hyr i h1 h3]; exact round_rest u (by omega)⟩, by simp only; omega⟩ (by simp only; omega) ?_
                simp only [NwO, Nw, t9b_20, hT2, round_20, hW2, encC, bN, lN, lg, junks, ri, rb, Int.natCast_add, Int.natCast_one, NwO, Nw, wk, renJ, renJs, mvH, hgetO, memB, posG, jp, renJB, renJEnts, vwks, vwk1, hwk, bwk, sc, scs, scEnts, lg, List.length_cons, List.length_nil, List.cons_append, List.nil_append, List.take_zero, true_and, and_true, and_self, implies_true, eq_self, Bool.and_self, decide_true, decide_false, Nat.zero_add, Nat.le_refl, reduceCtorEq, Nat.reduceAdd, Nat.reduceLT, Nat.reduceLeDiff, Nat.reduceEqDiff] <;> (and_intros <;> first | rfl | (intro k hk; (rcases k with _ | _ | _ | k <;> first | rfl | omega)))
              | false =>
                obtain ⟨v1, v2, v3, v4⟩ := hy.same
                simp only [Wd.nd, Int.natCast_zero, Int.reduceAdd] at v1 v2 v3 v4
                simp only [t9b_20, hT2, junks, pl9, hlt2, encC, hW2, bN, lN, lg, ri, rb, eng, litSt, srunA_nil, srunA_b, stepR, contB_mk, r0, regC, sop, unw, strip, sev, tg, tset, tput, needs, opNeeds, sBin, ibin, shiftOp, selC, sConv, lg, List.cons_append, List.nil_append, true_and, and_self, or_true, not_false_eq_true, eq_self, ne_eq, Bool.false_eq_true, Int.reduceEq, ti3, ti5]
                refine hX3 _ _ _ (by simp) ?_
                simp only [popF, pl9, ΓT2, on43_2, hT2, csOf, pix, ΓV2, c16, hyl, v1, v2, v3, v4, decV2, cK, onK, cM, decC2, ivn, lix, lof, lln, el0, el1, el2, hd1, cellOf, lstN, lstF, nodupB, ren, rens, encC, hW2, bN, lN, decN2, lg, Cen.eta, Nod.eta, onNat, allN, sigN, decN, encN, etaL2 u (hyr 2 (by decide) (by decide)), ri, rb, renB, rens, ren, sig, subH, updH, eng, litSt, srunA_nil, srunA_b, stepR, contB_mk, r0, r1, r2, regC, sop, unw, strip, sev, tg, tset, tput, needs, opNeeds, sBin, ibin, shiftOp, gb, gslot, gdst, onth, wants, sPick, popF, exitC, sLoad, sExtract, sField, sCall, cellsAt, hget, hset, hd1, lg, List.length_cons, List.length_nil, List.cons_append, List.nil_append, List.append_nil, List.map_cons, List.map_nil, List.take_succ_cons, List.take_zero, List.take_nil, List.drop_succ_cons, List.drop_zero, List.drop_nil, List.contains_cons, List.contains_nil, List.getElem?_cons_zero, List.getElem?_cons_succ, true_and, and_self, or_true, implies_true, not_false_eq_true, eq_self, ne_eq, Bool.true_eq_false, Bool.false_eq_true, Bool.not_false, Bool.or_false, Bool.and_self, Bool.cond_true, Nat.zero_add, Nat.add_zero, Nat.le_refl, Option.getD_some, reduceCtorEq, ↓reduceIte, Nat.reduceAdd, Nat.reduceSub, Nat.reduceLT, Nat.reduceLeDiff, Nat.reduceBEq, tk27, ta27, tk30, ta30, tf75_0]
                exact hF _ _ _ ⟨trivial, by simp only [Try.f9, rb, retP, sResults, sRes1, resK, retV, vwk, vwk1, hwk, sc, tg, List.length_nil, and_self, eq_self, Nat.le_refl]⟩
          · obtain ⟨hI0, hln⟩ := twice0 (by decide) hT' (by omega) hr (show j < w.sl by omega) (k := 1) (by rw [q]; rfl)
            have q1 : ¬ (w.sn j < 1) := by omega
            have q2 : ¬ (2 < w.sn j) := by omega
            have hww : IntKind.i64.wrap 1 = 1 := by decide
            simp only [Wd.nd, cast1, Int.reduceAdd] at hI0 hln
            generalize hak : w.sk j = ak at *
            generalize hm : w.sm j = m at *
            have hr1 : ∀ k, 2 ≤ k → k < 3 → (w.again 1 ak 2 m).nd k = dN := fun i h1 h3 => by rw [← hr.rest i h1 h3]; exact again_rest w (by omega) _ _ _
            simp only [popF, pl9, ΓT2, on43_2, hT2, csOf, pix, hs, q, hak, hm, hidx, hjl, hww, hln, decV2, decC2, ivn, lof, lln, el0, el1, el2, hd1, cellOf, lstN, lstF, encC, hW2, bN, lN, decN2, lg, Cen.eta, Nod.eta, cast2, etaL2 w (hdn 2 (by decide) (by decide)), ri, rb, eng, litSt, srunA_nil, srunA_b, stepR, contB_mk, r0, r1, r2, regC, sop, unw, strip, sev, tg, tset, tput, needs, opNeeds, sBin, ibin, shiftOp, gb, gslot, gdst, onth, wants, sPick, popF, selC, exitC, sLoad, sStore, sField, sIndex, sLen, sNew, sAlloc, sCall, sBuiltin, sUn, cellsAt, hget, hset, hd1, vcells, one, splice, holeAt, idxAt, pushAt, lg, List.length_cons, List.length_nil, List.cons_append, List.nil_append, List.append_nil, List.map_cons, List.map_nil, List.take_succ_cons, List.take_zero, List.take_nil, List.drop_succ_cons, List.drop_zero, List.drop_nil, List.all_cons, List.all_nil, true_and, and_true, and_self, or_true, implies_true, not_false_eq_true, eq_self, ne_eq, Bool.false_eq_true, Bool.not_true, Bool.not_false, Bool.and_self, Bool.cond_false, decide_false, Nat.zero_add, Nat.le_refl, Int.toNat_natCast, Int.natCast_nonneg, reduceCtorEq, Value.oneCell', ↓reduceIte, Nat.reduceAdd, Nat.reduceLT, Nat.reduceLeDiff, Nat.reduceBEq, Int.reduceLT, Int.reduceLE, Int.reduceToNat, Int.reduceSub, tk3, ta3, tk30, ts30, ta30, tz30, tk41, ts41, ta41, tz41, tf41_1, tk71, ta71, te71, tk72, ta72, te72, tf75_1, tf75_2]
            have h5 := tmod_lt hnd.1 (show (0 : Int) < 5 by decide)
            rw [← wrap_byte hnd.1 hnd.2] at h5
            refine ⟨(show j < w.sl by omega), Nat × Wd, fun x => t9b_21 nd x.1, fun x => hT2 9 x.2 x.2.slow ak 2 m x.2.sl, fun x => (TwI 2 1 (lT b) ak m x.1 x.2 ∧ (∀ i, 2 ≤ i → i < 3 → x.2.nd i = dN)) ∧ (x.1 : Int) ≤ (IntKind.i64.wrap nd).tmod 5, fun x => 5 - x.1, (0, w.again 1 ak 2 m), ⟨⟨hI0, hr1⟩, by simp only; omega⟩, ⟨none, ?_⟩, ?_⟩
            · simp only [NwO, Nw, t9b_21, hT2, again_sl, again_slow, hW2, encC, bN, lN, lg, junks, ri, rb, Int.natCast_zero, NwO, Nw, wk, vwks, vwk1, hwk, bwk, sc, scs, scEnts, lg, List.length_cons, List.length_nil, List.cons_append, List.nil_append, true_and, and_true, and_self, implies_true, eq_self, Bool.and_self, decide_true, Nat.zero_add, Nat.le_refl, Nat.reduceAdd, Nat.reduceLT, Nat.reduceLeDiff] <;> (and_intros <;> first | rfl | (intro k hk; (rcases k with _ | _ | _ | k <;> first | rfl | omega)))
            · rintro ⟨j2, u⟩ ⟨⟨hy, hyr⟩, hj2⟩ F3 hN3 hX3
              have hyl : u.x1.len ≤ 1000000 := by have := hy.nod.len; have := hy.hj; simp only [Wd.nd] at *; omega
              cases hlt2 : decide ((j2 : Int) < (IntKind.i64.wrap nd).tmod 5) with
              | true =>
                have hl5 : (j2 : Int) < (IntKind.i64.wrap nd).tmod 5 := of_decide_eq_true hlt2
                have hw2 : IntKind.i64.wrap ((j2 : Int) + 1) = j2 + 1 := wrap1 (by omega) (by omega)
                have hyl2 : u.x1.tk.len ≤ 1000000 := hyl
                simp only [t9b_21, hT2, junks, pl9, ΓT2, ΓV2, hlt2, hw2, hyl2, cK, onK, cM, decC2, ivn, lix, lof, lln, el0, el1, hd1, cellOf, lstN, lstF, nodupB, ren, rens, encC, hW2, bN, lN, decN2, lg, Cen.eta, Nod.eta, onNat, allN, sigN, decN, encN, encN2, Nod.room, ask_word, ri, rb, renB, rens, ren, sig, subH, updH, eng, litSt, srunA_nil, srunA_b, stepR, contB_mk, r0, regC, sop, unw, strip, sev, tg, tset, tput, needs, opNeeds, sBin, ibin, shiftOp, selC, sLoad, sField, sCall, sConv, cellsAt, hget, hset, hd1, lg, List.length_cons, List.length_nil, List.cons_append, List.nil_append, List.append_nil, List.map_cons, List.map_nil, List.take_succ_cons, List.take_zero, List.take_nil, List.drop_succ_cons, List.drop_zero, List.contains_cons, List.contains_nil, List.getElem?_cons_zero, List.getElem?_cons_succ, List.getElem?_nil, true_and, and_self, or_true, not_false_eq_true, eq_self, ne_eq, Bool.false_eq_true, Bool.not_false, Bool.or_false, Bool.and_self, Nat.zero_add, Nat.add_zero, Nat.le_refl, Option.getD_some, Option.getD_none, reduceCtorEq, Nat.reduceAdd, Nat.reduceSub, Nat.reduceLT, Nat.reduceLeDiff, Nat.reduceBEq, Int.reduceEq, ti3, ti5, tk27, ta27, tk30, ta30, tf75_0]
                refine hN3 (some [0, 1, 2, 3, 4, 5, 6, 7, 8, 9, 14, 11, 12, 13]) (j2 + 1, u.round 1) _ _ ⟨⟨hy.step (by omega), fun i h1 h3 => by rw [← hyr i h1 h3]; exact round_rest u (by omega)⟩, by simp only; omega⟩ (by simp only; omega) ?_
                simp only [NwO, Nw, t9b_21, hT2, round_21, hW2, encC, bN, lN, lg, junks, ri, rb, Int.natCast_add, Int.natCast_one, NwO, Nw, wk, renJ, renJs, mvH, hgetO, memB, posG, jp, renJB, renJEnts, vwks, vwk1, hwk, bwk, sc, scs, scEnts, lg, List.length_cons, List.length_nil, List.cons_append, List.nil_append, List.take_zero, true_and, and_true, and_self, implies_true, eq_self, Bool.and_self, decide_true, decide_false, Nat.zero_add, Nat.le_refl, reduceCtorEq, Nat.reduceAdd, Nat.reduceLT, Nat.reduceLeDiff, Nat.reduceEqDiff] <;> (and_intros <;> first | rfl | (intro k hk; (rcases k with _ | _ | _ | k <;> first | rfl | omega)))
              | false =>
                obtain ⟨v1, v2, v3, v4⟩ := hy.same
                simp only [Wd.nd, cast1, Int.reduceAdd] at v1 v2 v3 v4
                simp only [t9b_21, hT2, junks, pl9, hlt2, encC, hW2, bN, lN, lg, ri, rb, eng, litSt, srunA_nil, srunA_b, stepR, contB_mk, r0, regC, sop, unw, strip, sev, tg, tset, tput, needs, opNeeds, sBin, ibin, shiftOp, selC, sConv, lg, List.cons_append, List.nil_append, true_and, and_self, or_true, not_false_eq_true, eq_self, ne_eq, Bool.false_eq_true, Int.reduceEq, ti3, ti5]
                refine hX3 _ _ _ (by simp) ?_
                simp only [popF, pl9, ΓT2, on43_2, hT2, csOf, pix, ΓV2, c16, hyl, v1, v2, v3, v4, decV2, cK, onK, cM, decC2, ivn, lix, lof, lln, el0, el1, el2, hd1, cellOf, lstN, lstF, nodupB, ren, rens, encC, hW2, bN, lN, decN2, lg, Cen.eta, Nod.eta, onNat, allN, sigN, decN, encN, etaL2 u (hyr 2 (by decide) (by decide)), ri, rb, renB, rens, ren, sig, subH, updH, eng, litSt, srunA_nil, srunA_b, stepR, contB_mk, r0, r1, r2, regC, sop, unw, strip, sev, tg, tset, tput, needs, opNeeds, sBin, ibin, shiftOp, gb, gslot, gdst, onth, wants, sPick, popF, exitC, sLoad, sExtract, sField, sCall, cellsAt, hget, hset, hd1, lg, List.length_cons, List.length_nil, List.cons_append, List.nil_append, List.append_nil, List.map_cons, List.map_nil, List.take_succ_cons, List.take_zero, List.take_nil, List.drop_succ_cons, List.drop_zero, List.drop_nil, List.contains_cons, List.contains_nil, List.getElem?_cons_zero, List.getElem?_cons_succ, true_and, and_self, or_true, implies_true, not_false_eq_true, eq_self, ne_eq, Bool.true_eq_false, Bool.false_eq_true, Bool.not_false, Bool.or_false, Bool.and_self, Bool.cond_true, Nat.zero_add, Nat.add_zero, Nat.le_refl, Option.getD_some, reduceCtorEq, ↓reduceIte, Nat.reduceAdd, Nat.reduceSub, Nat.reduceLT, Nat.reduceLeDiff, Nat.reduceBEq, tk27, ta27, tk30, ta30, tf75_0]
                exact hF _ _ _ ⟨trivial, by simp only [Try.f9, rb, retP, sResults, sRes1, resK, retV, vwk, vwk1, hwk, sc, tg, List.length_nil, and_self, eq_self, Nat.le_refl]⟩
      | true =>
        have hil : i < n := by simp at hlt; omega
        obtain ⟨bb, o, rfl, hcell⟩ := hE.1 (by omega)
        obtain ⟨c0, c1⟩ := hcell i hil
        have hby := hE.2 i hil
        have hlt' : ((i : Int) < n) = True := by simp; omega
        have hw : IntKind.i64.wrap ((i : Int) + 1) = i + 1 := wrap1 (by omega) (by omega)
        have r := hr.step (by decide) hT' hS (by omega) (what := e0 i) hby.1
        have hfit : Fit 2 w = True := eq_true (hr.fit (by decide) hT' hS (by omega))
        have hb0 : (0 ≤ e1 i) = True := eq_true hby.1
        have hb1 : (e1 i < 256) = True := eq_true hby.2
        have hk3 : (e1 i).tmod 2 = 0 ∨ (e1 i).tmod 2 = 1 := by
          have := tmod_lt hby.1 (show (0 : Int) < 2 by decide)
          omega
        rcases hk3 with q | q
        · obtain ⟨z1, z2⟩ := two_tests (by decide) hT' (by omega) hby.1 hr r (show 0 < 2 by decide)
          simp only [Wd.nd] at z1 z2
          have hkk : (IntKind.i64.wrap (e1 i)).tmod 2 = 0 := by rw [wrap_byte hby.1 hby.2]; exact q
          cases z3 : decide ((w.step 2 (e0 i) (e1 i)).x0.en < w.x0.en) with
          | false =>
            simp only [t9_2, h9_2, junks, pl9, ΓT2, ΓV2, onHap2, preHap2, decV2, hU0_2, tU2, lS, eWs, cK, cM, decC2, ivn, lix, lof, lln, el0, el1, el2, hd1, cellOf, lstN, lstF, nodupB, ren, rens, encC, eW, hW2, bN, lN, decN2, lg, Cen.eta, Nod.eta, cast2, onNat, allN, sigN, decN, encN, etaL2 w (hdn 2 (by decide) (by decide)), hlt', c0, c1, hw, hfit, hb0, hb1, hkk, z1, z3, ri, rb, renB, rens, ren, sig, subH, updH, ↓engE, drawE_mk, eng, litSt, srunA_nil, srunA_b, stepR, contB_mk, r0, r1, r2, regC, sop, unw, strip, sev, tg, tset, tput, needs, opNeeds, sBin, ibin, shiftOp, gb, gslot, gdst, onth, wants, sPick, selC, sLoad, sStore, sExtract, sField, sIndex, sLen, sCall, sBuiltin, sConv, cellsAt, roCells, hget, hset, hd1, vcells, one, splice, drawSt, preL, chkL, stp, nxtB_mk, pref_0, pref_b, allocOp, holes, lg, List.length_cons, List.length_nil, List.cons_append, List.nil_append, List.append_nil, List.map_cons, List.map_nil, List.take_succ_cons, List.take_zero, List.take_nil, List.drop_succ_cons, List.drop_zero, List.drop_nil, List.all_cons, List.all_nil, List.contains_cons, List.contains_nil, List.getElem?_cons_zero, List.getElem?_cons_succ, true_and, and_self, or_true, implies_true, imp_self, not_false_eq_true, eq_self, ne_eq, Bool.true_eq_false, Bool.false_eq_true, Bool.not_false, Bool.and_false, Bool.or_false, Bool.and_self, Bool.cond_true, Bool.cond_false, decide_true, Nat.zero_add, Nat.add_zero, Nat.le_refl, Int.toNat_natCast, Int.toNat_zero, Int.natCast_nonneg, Option.getD_some, Option.isSome_some, reduceCtorEq, Value.oneCell', ↓reduceIte, Nat.reduceAdd, Nat.reduceSub, Nat.reduceLT, Nat.reduceLeDiff, Nat.reduceBEq, Int.reduceLT, Int.reduceLE, Int.reduceEq, ti3, tk5, ta5, ti5, tk30, ts30, ta30, te70, tk71, ta71, te71, tk75, ts75, ta75, tf75_1, tk80, ts80, ta80, tf80_0, tf80_1]
            refine hN (some [0, 1, 2, 3, 12, 5, 6, 7, 13, 9, 14, 11]) (i + 1, w.step 2 (e0 i) (e1 i)) _ _ ⟨by simp only; omega, r⟩ (by simp only; omega) ?_
            simp only [NwO, Nw, t9_2, h9_2, hW2, encC, bN, lN, lg, junks, ri, rb, Int.natCast_add, Int.natCast_one, NwO, Nw, wk, renJ, renJs, mvH, hgetO, memB, posG, jp, renJB, renJEnts, vwks, vwk1, hwk, bwk, sc, scs, scEnts, lg, List.length_cons, List.length_nil, List.cons_append, List.nil_append, List.take_zero, true_and, and_true, and_self, implies_true, eq_self, Bool.and_self, decide_true, decide_false, Nat.zero_add, Nat.le_refl, reduceCtorEq, Nat.reduceAdd, Nat.reduceLT, Nat.reduceLeDiff, Nat.reduceEqDiff] <;> (and_intros <;> first | rfl | (intro k hk; (rcases k with _ | _ | _ | k <;> first | rfl | omega)))
          | true =>
            rw [z3] at z2
            have z4 : decide (e0 i = 2) = true ∨ (decide (e0 i = 2) = false ∧ decide (e0 i = 3) = true) := by
              rcases z2 with z | z | z
              · cases z
              · exact .inl z
              · refine .inr ⟨?_, z⟩
                rw [of_decide_eq_true z]
                rfl
            rcases z4 with z5 | ⟨z5, z6⟩
            · simp only [t9_2, h9_2, junks, pl9, ΓT2, ΓV2, onHap2, preHap2, decV2, hU0_2, tU2, lS, eWs, cK, cM, decC2, ivn, lix, lof, lln, el0, el1, el2, hd1, cellOf, lstN, lstF, nodupB, ren, rens, encC, eW, hW2, bN, lN, decN2, lg, Cen.eta, Nod.eta, cast2, onNat, allN, sigN, decN, encN, etaL2 w (hdn 2 (by decide) (by decide)), hlt', c0, c1, hw, hfit, hb0, hb1, hkk, z1, z3, z5, ri, rb, renB, rens, ren, sig, subH, updH, ↓engE, drawE_mk, eng, litSt, srunA_nil, srunA_b, stepR, contB_mk, r0, r1, r2, regC, sop, unw, strip, sev, tg, tset, tput, needs, opNeeds, sBin, ibin, shiftOp, gb, gslot, gdst, onth, wants, sPick, selC, sLoad, sStore, sExtract, sField, sIndex, sLen, sCall, sBuiltin, sConv, cellsAt, roCells, hget, hset, hd1, vcells, one, splice, drawSt, preL, chkL, stp, nxtB_mk, pref_0, pref_b, allocOp, holes, lg, List.length_cons, List.length_nil, List.cons_append, List.nil_append, List.append_nil, List.map_cons, List.map_nil, List.take_succ_cons, List.take_zero, List.take_nil, List.drop_succ_cons, List.drop_zero, List.drop_nil, List.all_cons, List.all_nil, List.contains_cons, List.contains_nil, List.getElem?_cons_zero, List.getElem?_cons_succ, true_and, and_self, or_true, implies_true, imp_self, not_false_eq_true, eq_self, ne_eq, Bool.true_eq_false, Bool.false_eq_true, Bool.not_true, Bool.not_false, Bool.and_false, Bool.or_false, Bool.and_self, Bool.cond_true, Bool.cond_false, decide_true, Nat.zero_add, Nat.add_zero, Nat.le_refl, Int.toNat_natCast, Int.toNat_zero, Int.natCast_nonneg, Option.getD_some, Option.isSome_some, reduceCtorEq, Value.oneCell', ↓reduceIte, Nat.reduceAdd, Nat.reduceSub, Nat.reduceLT, Nat.reduceLeDiff, Nat.reduceBEq, Int.reduceLT, Int.reduceLE, Int.reduceEq, ti3, tk5, ta5, ti5, tk30, ts30, ta30, te70, tk71, ta71, te71, tk75, ts75, ta75, tf75_1, tk80, ts80, ta80, tf80_0, tf80_1]
              refine hN (some [0, 1, 2, 3, 12, 5, 6, 7, 13, 9, 14, 11]) (i + 1, w.step 2 (e0 i) (e1 i)) _ _ ⟨by simp only; omega, r⟩ (by simp only; omega) ?_
              simp only [NwO, Nw, t9_2, h9_2, hW2, encC, bN, lN, lg, junks, ri, rb, Int.natCast_add, Int.natCast_one, NwO, Nw, wk, renJ, renJs, mvH, hgetO, memB, posG, jp, renJB, renJEnts, vwks, vwk1, hwk, bwk, sc, scs, scEnts, lg, List.length_cons, List.length_nil, List.cons_append, List.nil_append, List.take_zero, true_and, and_true, and_self, implies_true, eq_self, Bool.and_self, decide_true, decide_false, Nat.zero_add, Nat.le_refl, reduceCtorEq, Nat.reduceAdd, Nat.reduceLT, Nat.reduceLeDiff, Nat.reduceEqDiff] <;> (and_intros <;> first | rfl | (intro k hk; (rcases k with _ | _ | _ | k <;> first | rfl | omega)))
            · simp only [t9_2, h9_2, junks, pl9, ΓT2, ΓV2, onHap2, preHap2, decV2, hU0_2, tU2, lS, eWs, cK, cM, decC2, ivn, lix, lof, lln, el0, el1, el2, hd1, cellOf, lstN, lstF, nodupB, ren, rens, encC, eW, hW2, bN, lN, decN2, lg, Cen.eta, Nod.eta, cast2, onNat, allN, sigN, decN, encN, etaL2 w (hdn 2 (by decide) (by decide)), hlt', c0, c1, hw, hfit, hb0, hb1, hkk, z1, z3, z5, z6, ri, rb, renB, rens, ren, sig, subH, updH, ↓engE, drawE_mk, eng, litSt, srunA_nil, srunA_b, stepR, contB_mk, r0, r1, r2, regC, sop, unw, strip, sev, tg, tset, tput, needs, opNeeds, sBin, ibin, shiftOp, gb, gslot, gdst, onth, wants, sPick, selC, sLoad, sStore, sExtract, sField, sIndex, sLen, sCall, sBuiltin, sConv, cellsAt, roCells, hget, hset, hd1, vcells, one, splice, drawSt, preL, chkL, stp, nxtB_mk, pref_0, pref_b, allocOp, holes, lg, List.length_cons, List.length_nil, List.cons_append, List.nil_append, List.append_nil, List.map_cons, List.map_nil, List.take_succ_cons, List.take_zero, List.take_nil, List.drop_succ_cons, List.drop_zero, List.drop_nil, List.all_cons, List.all_nil, List.contains_cons, List.contains_nil, List.getElem?_cons_zero, List.getElem?_cons_succ, true_and, and_self, or_true, implies_true, not_false_eq_true, eq_self, ne_eq, Bool.true_eq_false, Bool.false_eq_true, Bool.not_true, Bool.not_false, Bool.or_false, Bool.and_self, Bool.cond_true, Bool.cond_false, decide_true, Nat.zero_add, Nat.add_zero, Nat.le_refl, Int.toNat_natCast, Int.toNat_zero, Int.natCast_nonneg, Option.getD_some, Option.isSome_some, reduceCtorEq, Value.oneCell', ↓reduceIte, Nat.reduceAdd, Nat.reduceSub, Nat.reduceLT, Nat.reduceLeDiff, Nat.reduceBEq, Int.reduceLT, Int.reduceLE, Int.reduceEq, ti3, tk5, ta5, ti5, tk30, ts30, ta30, te70, tk71, ta71, te71, tk75, ts75, ta75, tf75_1, tk80, ts80, ta80, tf80_0, tf80_1]
              refine hN (some [0, 1, 2, 3, 12, 5, 6, 7, 13, 9, 14, 11]) (i + 1, w.step 2 (e0 i) (e1 i)) _ _ ⟨by simp only; omega, r⟩ (by simp only; omega) ?_
              simp only [NwO, Nw, t9_2, h9_2, hW2, encC, bN, lN, lg, junks, ri, rb, Int.natCast_add, Int.natCast_one, NwO, Nw, wk, renJ, renJs, mvH, hgetO, memB, posG, jp, renJB, renJEnts, vwks, vwk1, hwk, bwk, sc, scs, scEnts, lg, List.length_cons, List.length_nil, List.cons_append, List.nil_append, List.take_zero, true_and, and_true, and_self, implies_true, eq_self, Bool.and_self, decide_true, decide_false, Nat.zero_add, Nat.le_refl, reduceCtorEq, Nat.reduceAdd, Nat.reduceLT, Nat.reduceLeDiff, Nat.reduceEqDiff] <;> (and_intros <;> first | rfl | (intro k hk; (rcases k with _ | _ | _ | k <;> first | rfl | omega)))
        · obtain ⟨z1, z2⟩ := two_tests (by decide) hT' (by omega) hby.1 hr r (show 1 < 2 by decide)
          simp only [Wd.nd] at z1 z2
          have hkk : (IntKind.i64.wrap (e1 i)).tmod 2 = 1 := by rw [wrap_byte hby.1 hby.2]; exact q
          cases z3 : decide ((w.step 2 (e0 i) (e1 i)).x1.en < w.x1.en) with
          | false =>
            simp only [t9_2, h9_2, junks, pl9, ΓT2, ΓV2, onHap2, preHap2, decV2, hU0_2, tU2, lS, eWs, cK, cM, decC2, ivn, lix, lof, lln, el0, el1, el2, hd1, cellOf, lstN, lstF, nodupB, ren, rens, encC, eW, hW2, bN, lN, decN2, lg, Cen.eta, Nod.eta, cast2, onNat, allN, sigN, decN, encN, etaL2 w (hdn 2 (by decide) (by decide)), hlt', c0, c1, hw, hfit, hb0, hb1, hkk, z1, z3, ri, rb, renB, rens, ren, sig, subH, updH, ↓engE, drawE_mk, eng, litSt, srunA_nil, srunA_b, stepR, contB_mk, r0, r1, r2, regC, sop, unw, strip, sev, tg, tset, tput, needs, opNeeds, sBin, ibin, shiftOp, gb, gslot, gdst, onth, wants, sPick, selC, sLoad, sStore, sExtract, sField, sIndex, sLen, sCall, sBuiltin, sConv, cellsAt, roCells, hget, hset, hd1, vcells, one, splice, drawSt, preL, chkL, stp, nxtB_mk, pref_0, pref_b, allocOp, holes, lg, List.length_cons, List.length_nil, List.cons_append, List.nil_append, List.append_nil, List.map_cons, List.map_nil, List.take_succ_cons, List.take_zero, List.take_nil, List.drop_succ_cons, List.drop_zero, List.drop_nil, List.all_cons, List.all_nil, List.contains_cons, List.contains_nil, List.getElem?_cons_zero, List.getElem?_cons_succ, true_and, and_self, or_true, implies_true, imp_self, not_false_eq_true, eq_self, ne_eq, Bool.true_eq_false, Bool.false_eq_true, Bool.not_false, Bool.and_false, Bool.or_false, Bool.and_self, Bool.cond_true, Bool.cond_false, decide_true, Nat.zero_add, Nat.add_zero, Nat.le_refl, Int.toNat_natCast, Int.natCast_nonneg, Option.getD_some, Option.isSome_some, reduceCtorEq, Value.oneCell', ↓reduceIte, Nat.reduceAdd, Nat.reduceSub, Nat.reduceLT, Nat.reduceLeDiff, Nat.reduceBEq, Int.reduceLT, Int.reduceLE, Int.reduceEq, Int.reduceToNat, ti3, tk5, ta5, ti5, tk30, ts30, ta30, te70, tk71, ta71, te71, tk75, ts75, ta75, tf75_1, tk80, ts80, ta80, tf80_0, tf80_1]
            refine hN (some [0, 1, 2, 3, 12, 5, 6, 7, 13, 9, 14, 11]) (i + 1, w.step 2 (e0 i) (e1 i)) _ _ ⟨by simp only; omega, r⟩ (by simp only; omega) ?_
            simp only [NwO, Nw, t9_2, h9_2, hW2, encC, bN, lN, lg, junks, ri, rb, Int.natCast_add, Int.natCast_one, NwO, Nw, wk, renJ, renJs, mvH, hgetO, memB, posG, jp, renJB, renJEnts, vwks, vwk1, hwk, bwk, sc, scs, scEnts, lg, List.length_cons, List.length_nil, List.cons_append, List.nil_append, List.take_zero, true_and, and_true, and_self, implies_true, eq_self, Bool.and_self, decide_true, decide_false, Nat.zero_add, Nat.le_refl, reduceCtorEq, Nat.reduceAdd, Nat.reduceLT, Nat.reduceLeDiff, Nat.reduceEqDiff] <;> (and_intros <;> first | rfl | (intro k hk; (rcases k with _ | _ | _ | k <;> first | rfl | omega)))
          | true =>
            rw [z3] at z2
            have z4 : decide (e0 i = 2) = true ∨ (decide (e0 i = 2) = false ∧ decide (e0 i = 3) = true) := by
              rcases z2 with z | z | z
              · cases z
              · exact .inl z
              · refine .inr ⟨?_, z⟩
                rw [of_decide_eq_true z]
                rfl
            rcases z4 with z5 | ⟨z5, z6⟩
            · simp only [t9_2, h9_2, junks, pl9, ΓT2, ΓV2, onHap2, preHap2, decV2, hU0_2, tU2, lS, eWs, cK, cM, decC2, ivn, lix, lof, lln, el0, el1, el2, hd1, cellOf, lstN, lstF, nodupB, ren, rens, encC, eW, hW2, bN, lN, decN2, lg, Cen.eta, Nod.eta, cast2, onNat, allN, sigN, decN, encN, etaL2 w (hdn 2 (by decide) (by decide)), hlt', c0, c1, hw, hfit, hb0, hb1, hkk, z1, z3, z5, ri, rb, renB, rens, ren, sig, subH, updH, ↓engE, drawE_mk, eng, litSt, srunA_nil, srunA_b, stepR, contB_mk, r0, r1, r2, regC, sop, unw, strip, sev, tg, tset, tput, needs, opNeeds, sBin, ibin, shiftOp, gb, gslot, gdst, onth, wants, sPick, selC, sLoad, sStore, sExtract, sField, sIndex, sLen, sCall, sBuiltin, sConv, cellsAt, roCells, hget, hset, hd1, vcells, one, splice, drawSt, preL, chkL, stp, nxtB_mk, pref_0, pref_b, allocOp, holes, lg, List.length_cons, List.length_nil, List.cons_append, List.nil_append, List.append_nil, List.map_cons, List.map_nil, List.take_succ_cons, List.take_zero, List.take_nil, List.drop_succ_cons, List.drop_zero, List.drop_nil, List.all_cons, List.all_nil, List.contains_cons, List.contains_nil, List.getElem?_cons_zero, List.getElem?_cons_succ, true_and, and_self, or_true, implies_true, imp_self, not_false_eq_true, eq_self, ne_eq, Bool.true_eq_false, Bool.false_eq_true, Bool.not_true, Bool.not_false, Bool.and_false, Bool.or_false, Bool.and_self, Bool.cond_true, Bool.cond_false, decide_true, Nat.zero_add, Nat.add_zero, Nat.le_refl, Int.toNat_natCast, Int.natCast_nonneg, Option.getD_some, Option.isSome_some, reduceCtorEq, Value.oneCell', ↓reduceIte, Nat.reduceAdd, Nat.reduceSub, Nat.reduceLT, Nat.reduceLeDiff, Nat.reduceBEq, Int.reduceLT, Int.reduceLE, Int.reduceEq, Int.reduceToNat, ti3, tk5, ta5, ti5, tk30, ts30, ta30, te70, tk71, ta71, te71, tk75, ts75, ta75, tf75_1, tk80, ts80, ta80, tf80_0, tf80_1]
              refine hN (some [0, 1, 2, 3, 12, 5, 6, 7, 13, 9, 14, 11]) (i + 1, w.step 2 (e0 i) (e1 i)) _ _ ⟨by simp only; omega, r⟩ (by simp only; omega) ?_
              simp only [NwO, Nw, t9_2, h9_2, hW2, encC, bN, lN, lg, junks, ri, rb, Int.natCast_add, Int.natCast_one, NwO, Nw, wk, renJ, renJs, mvH, hgetO, memB, posG, jp, renJB, renJEnts, vwks, vwk1, hwk, bwk, sc, scs, scEnts, lg, List.length_cons, List.length_nil, List.cons_append, List.nil_append, List.take_zero, true_and, and_true, and_self, implies_true, eq_self, Bool.and_self, decide_true, decide_false, Nat.zero_add, Nat.le_refl, reduceCtorEq, Nat.reduceAdd, Nat.reduceLT, Nat.reduceLeDiff, Nat.reduceEqDiff] <;> (and_intros <;> first | rfl | (intro k hk; (rcases k with _ | _ | _ | k <;> first | rfl | omega)))
            · simp only [t9_2, h9_2, junks, pl9, ΓT2, ΓV2, onHap2, preHap2, decV2, hU0_2, tU2, lS, eWs, cK, cM, decC2, ivn, lix, lof, lln, el0, el1, el2, hd1, cellOf, lstN, lstF, nodupB, ren, rens, encC, eW, hW2, bN, lN, decN2, lg, Cen.eta, Nod.eta, cast2, onNat, allN, sigN, decN, encN, etaL2 w (hdn 2 (by decide) (by decide)), hlt', c0, c1, hw, hfit, hb0, hb1, hkk, z1, z3, z5, z6, ri, rb, renB, rens, ren, sig, subH, updH, ↓engE, drawE_mk, eng, litSt, srunA_nil, srunA_b, stepR, contB_mk, r0, r1, r2, regC, sop, unw, strip, sev, tg, tset, tput, needs, opNeeds, sBin, ibin, shiftOp, gb, gslot, gdst, onth, wants, sPick, selC, sLoad, sStore, sExtract, sField, sIndex, sLen, sCall, sBuiltin, sConv, cellsAt, roCells, hget, hset, hd1, vcells, one, splice, drawSt, preL, chkL, stp, nxtB_mk, pref_0, pref_b, allocOp, holes, lg, List.length_cons, List.length_nil, List.cons_append, List.nil_append, List.append_nil, List.map_cons, List.map_nil, List.take_succ_cons, List.take_zero, List.take_nil, List.drop_succ_cons, List.drop_zero, List.drop_nil, List.all_cons, List.all_nil, List.contains_cons, List.contains_nil, List.getElem?_cons_zero, List.getElem?_cons_succ, true_and, and_self, or_true, implies_true, not_false_eq_true, eq_self, ne_eq, Bool.true_eq_false, Bool.false_eq_true, Bool.not_true, Bool.not_false, Bool.or_false, Bool.and_self, Bool.cond_true, Bool.cond_false, decide_true, Nat.zero_add, Nat.add_zero, Nat.le_refl, Int.toNat_natCast, Int.natCast_nonneg, Option.getD_some, Option.isSome_some, reduceCtorEq, Value.oneCell', ↓reduceIte, Nat.reduceAdd, Nat.reduceSub, Nat.reduceLT, Nat.reduceLeDiff, Nat.reduceBEq, Int.reduceLT, Int.reduceLE, Int.reduceEq, Int.reduceToNat, ti3, tk5, ta5, ti5, tk30, ts30, ta30, te70, tk71, ta71, te71, tk75, ts75, ta75, tf75_1, tk80, ts80, ta80, tf80_0, tf80_1]
              refine hN (some [0, 1, 2, 3, 12, 5, 6, 7, 13, 9, 14, 11]) (i + 1, w.step 2 (e0 i) (e1 i)) _ _ ⟨by simp only; omega, r⟩ (by simp only; omega) ?_
              simp only [NwO, Nw, t9_2, h9_2, hW2, encC, bN, lN, lg, junks, ri, rb, Int.natCast_add, Int.natCast_one, NwO, Nw, wk, renJ, renJs, mvH, hgetO, memB, posG, jp, renJB, renJEnts, vwks, vwk1, hwk, bwk, sc, scs, scEnts, lg, List.length_cons, List.length_nil, List.cons_append, List.nil_append, List.take_zero, true_and, and_true, and_self, implies_true, eq_self, Bool.and_self, decide_true, decide_false, Nat.zero_add, Nat.le_refl, reduceCtorEq, Nat.reduceAdd, Nat.reduceLT, Nat.reduceLeDiff, Nat.reduceEqDiff] <;> (and_intros <;> first | rfl | (intro k hk; (rcases k with _ | _ | _ | k <;> first | rfl | omega)))
end Go.Proofs.Ytmnpnnegnlhemaa.Eng
namespace Go.Proofs.Ytmnpnnegnlhemaa.Eng
open Go

def t9_3 (v : Value) (nd T : Int) (i : Nat) : List SV := [.junk, .raw v, .raw (.int .u8 nd), .junk, .junk, .junk, .junk, .ptr 13 0, .raw (.bool true), ri T, ri (i : Int)] ++ junks 194
def h9_3 (w : Wd) : List AB := hW3 w ++ [.cells [.ptr 0 0, .lst 3 1 0 3, .lst 4 3 0 w.sl, .lst 5 1 0 3, .lst 6 1 0 3, ri w.slow] 75]
/-- A world, a word, and the node that it is of. -/
def hT3 (k : Nat) (w : Wd) (slow a n m : Int) (s : Nat) : List AB := hW3 w ++ [.cells [.ptr 0 0, .lst 3 1 0 3, .lst 4 3 0 s, .lst 5 1 0 3, .lst 6 1 0 3, ri slow] 75, .cells [ri a, ri n, ri m] 41, .cells [.ptr k 0] 30]
theorem again_30 (w : Wd) (a n m : Int) : w.again 0 a n m = match decide (a = 2) with
    | true => { w with x0 := w.x0.hear a n m }
    | false => { w with c := w.c.hear a n m } := rfl
set_option maxHeartbeats 1000000 in
set_option maxRecDepth 100000 in
theorem ok43_30 (E : Addr → Option Value) (w : Wd) (a n m slow : Int) (s : Nat) (hx : w.x0.len ≤ 1000000) : Ok Try.prog E 43 [.ptr 14 0, .ptr 15 0, .ptr 13 0] (hT3 7 w slow a n m s) (.tup []) (hT3 7 (w.again 0 a n m) slow a n m s) := by
  refine ok_of_eng (pl := pl43) mixed (ΓV3_sound E) Try.func43 rfl rfl (by kernel_rfl) (by simp [hT3, hW3, encC]) 100 (fun F hF => ?_)
  cases hk : decide (a = 2) with
  | true =>
    simp only [Try.f43, pl43, ΓV3, hT3, hk, hx, cK, cM, ivn, lix, lof, lln, el0, el1, hd1, cellOf, lstF, nodupB, ren, rens, encC, hW3, bN, lN, decN2, lg, Nod.eta, onNat, sigN, decN, encN, Nod.room, ri, rb, renB, rens, ren, sig, subH, updH, eng, litSt, srunA_nil, srunA_b, stepR, contB_mk, r0, regC, sop, unw, strip, sev, tg, tset, tput, undefs, needs, opNeeds, sBin, ibin, shiftOp, selC, sLoad, sField, sCall, cellsAt, hget, hset, hd1, lg, List.length_cons, List.length_nil, List.cons_append, List.nil_append, List.append_nil, List.map_cons, List.map_nil, List.take_succ_cons, List.take_zero, List.take_nil, List.drop_zero, List.contains_cons, List.contains_nil, List.getElem?_cons_zero, List.getElem?_cons_succ, true_and, and_self, or_true, not_false_eq_true, eq_self, ne_eq, Bool.false_eq_true, Bool.not_false, Bool.or_false, Bool.and_self, Nat.zero_add, Nat.add_zero, Nat.le_refl, Option.getD_some, reduceCtorEq, Nat.reduceAdd, Nat.reduceSub, Nat.reduceLT, Nat.reduceLeDiff, Nat.reduceBEq, tk3, ta3, tk30, ta30, tk41, ts41, ta41, tf41_0]
    exact hF _ _ _ ⟨trivial, by simp only [Try.f43, hT3, again_30, hk, hW3, encC, bN, lN, lg, ri, rb, retP, sResults, retV, vwk, vwks, vwk1, hwk, bwk, sc, scs, scEnts, lg, List.length_cons, List.length_nil, List.cons_append, List.nil_append, true_and, and_true, and_self, implies_true, eq_self, Bool.and_self, decide_true, Nat.zero_add, Nat.le_refl, Nat.reduceAdd, Nat.reduceLT] <;> (and_intros <;> first | rfl | (intro k hk; (rcases k with _ | _ | _ | k <;> first | rfl | omega)))⟩
  | false =>
    simp only [Try.f43, pl43, ΓV3, hT3, hk, cK, onK, decC2, ivn, hd1, cellOf, lstN, lstF, encC, hW3, bN, lN, lg, Cen.eta, says_word, ri, rb, eng, litSt, srunA_nil, srunA_b, stepR, contB_mk, r0, regC, sop, unw, strip, sev, tg, tset, tput, undefs, needs, opNeeds, sBin, ibin, shiftOp, selC, sLoad, sField, sCall, cellsAt, hget, hd1, lg, List.length_cons, List.length_nil, List.cons_append, List.nil_append, List.map_cons, List.map_nil, List.take_succ_cons, List.take_zero, List.take_nil, List.drop_succ_cons, List.drop_zero, true_and, and_self, or_true, not_false_eq_true, eq_self, ne_eq, Bool.false_eq_true, Nat.zero_add, Nat.add_zero, Nat.le_refl, reduceCtorEq, Nat.reduceAdd, Nat.reduceSub, Nat.reduceLeDiff, tk3, ta3, tk27, ta27, tk41, ts41, ta41, tf41_0, tf75_0]
    exact hF _ _ _ ⟨trivial, by simp only [Try.f43, hT3, again_30, hk, hW3, encC, bN, lN, lg, ri, rb, retP, sResults, retV, vwk, vwks, vwk1, hwk, bwk, sc, scs, scEnts, lg, List.length_cons, List.length_nil, List.cons_append, List.nil_append, true_and, and_true, and_self, implies_true, eq_self, Bool.and_self, decide_true, Nat.zero_add, Nat.le_refl, Nat.reduceAdd, Nat.reduceLT] <;> (and_intros <;> first | rfl | (intro k hk; (rcases k with _ | _ | _ | k <;> first | rfl | omega)))⟩
theorem again_31 (w : Wd) (a n m : Int) : w.again 1 a n m = match decide (a = 2) with
    | true => { w with x1 := w.x1.hear a n m }
    | false => { w with c := w.c.hear a n m } := rfl
set_option maxHeartbeats 1000000 in
set_option maxRecDepth 100000 in
theorem ok43_31 (E : Addr → Option Value) (w : Wd) (a n m slow : Int) (s : Nat) (hx : w.x1.len ≤ 1000000) : Ok Try.prog E 43 [.ptr 14 0, .ptr 15 0, .ptr 13 0] (hT3 9 w slow a n m s) (.tup []) (hT3 9 (w.again 1 a n m) slow a n m s) := by
  refine ok_of_eng (pl := pl43) mixed (ΓV3_sound E) Try.func43 rfl rfl (by kernel_rfl) (by simp [hT3, hW3, encC]) 100 (fun F hF => ?_)
  cases hk : decide (a = 2) with
  | true =>
    simp only [Try.f43, pl43, ΓV3, hT3, hk, hx, cK, cM, ivn, lix, lof, lln, el0, el1, hd1, cellOf, lstF, nodupB, ren, rens, encC, hW3, bN, lN, decN2, lg, Nod.eta, onNat, sigN, decN, encN, Nod.room, ri, rb, renB, rens, ren, sig, subH, updH, eng, litSt, srunA_nil, srunA_b, stepR, contB_mk, r0, regC, sop, unw, strip, sev, tg, tset, tput, undefs, needs, opNeeds, sBin, ibin, shiftOp, selC, sLoad, sField, sCall, cellsAt, hget, hset, hd1, lg, List.length_cons, List.length_nil, List.cons_append, List.nil_append, List.append_nil, List.map_cons, List.map_nil, List.take_succ_cons, List.take_zero, List.take_nil, List.drop_zero, List.contains_cons, List.contains_nil, List.getElem?_cons_zero, List.getElem?_cons_succ, true_and, and_self, or_true, not_false_eq_true, eq_self, ne_eq, Bool.false_eq_true, Bool.not_false, Bool.or_false, Bool.and_self, Nat.zero_add, Nat.add_zero, Nat.le_refl, Option.getD_some, reduceCtorEq, Nat.reduceAdd, Nat.reduceSub, Nat.reduceLT, Nat.reduceLeDiff, Nat.reduceBEq, tk3, ta3, tk30, ta30, tk41, ts41, ta41, tf41_0]
    exact hF _ _ _ ⟨trivial, by simp only [Try.f43, hT3, again_31, hk, hW3, encC, bN, lN, lg, ri, rb, retP, sResults, retV, vwk, vwks, vwk1, hwk, bwk, sc, scs, scEnts, lg, List.length_cons, List.length_nil, List.cons_append, List.nil_append, true_and, and_true, and_self, implies_true, eq_self, Bool.and_self, decide_true, Nat.zero_add, Nat.le_refl, Nat.reduceAdd, Nat.reduceLT] <;> (and_intros <;> first | rfl | (intro k hk; (rcases k with _ | _ | _ | k <;> first | rfl | omega)))⟩
  | false =>
    simp only [Try.f43, pl43, ΓV3, hT3, hk, cK, onK, decC2, ivn, hd1, cellOf, lstN, lstF, encC, hW3, bN, lN, lg, Cen.eta, says_word, ri, rb, eng, litSt, srunA_nil, srunA_b, stepR, contB_mk, r0, regC, sop, unw, strip, sev, tg, tset, tput, undefs, needs, opNeeds, sBin, ibin, shiftOp, selC, sLoad, sField, sCall, cellsAt, hget, hd1, lg, List.length_cons, List.length_nil, List.cons_append, List.nil_append, List.map_cons, List.map_nil, List.take_succ_cons, List.take_zero, List.take_nil, List.drop_succ_cons, List.drop_zero, true_and, and_self, or_true, not_false_eq_true, eq_self, ne_eq, Bool.false_eq_true, Nat.zero_add, Nat.add_zero, Nat.le_refl, reduceCtorEq, Nat.reduceAdd, Nat.reduceSub, Nat.reduceLeDiff, tk3, ta3, tk27, ta27, tk41, ts41, ta41, tf41_0, tf75_0]
    exact hF _ _ _ ⟨trivial, by simp only [Try.f43, hT3, again_31, hk, hW3, encC, bN, lN, lg, ri, rb, retP, sResults, retV, vwk, vwks, vwk1, hwk, bwk, sc, scs, scEnts, lg, List.length_cons, List.length_nil, List.cons_append, List.nil_append, true_and, and_true, and_self, implies_true, eq_self, Bool.and_self, decide_true, Nat.zero_add, Nat.le_refl, Nat.reduceAdd, Nat.reduceLT] <;> (and_intros <;> first | rfl | (intro k hk; (rcases k with _ | _ | _ | k <;> first | rfl | omega)))⟩
theorem again_32 (w : Wd) (a n m : Int) : w.again 2 a n m = match decide (a = 2) with
    | true => { w with x2 := w.x2.hear a n m }
    | false => { w with c := w.c.hear a n m } := rfl
set_option maxHeartbeats 1000000 in
set_option maxRecDepth 100000 in
theorem ok43_32 (E : Addr → Option Value) (w : Wd) (a n m slow : Int) (s : Nat) (hx : w.x2.len ≤ 1000000) : Ok Try.prog E 43 [.ptr 14 0, .ptr 15 0, .ptr 13 0] (hT3 11 w slow a n m s) (.tup []) (hT3 11 (w.again 2 a n m) slow a n m s) := by
  refine ok_of_eng (pl := pl43) mixed (ΓV3_sound E) Try.func43 rfl rfl (by kernel_rfl) (by simp [hT3, hW3, encC]) 100 (fun F hF => ?_)
  cases hk : decide (a = 2) with
  | true =>
    simp only [Try.f43, pl43, ΓV3, hT3, hk, hx, cK, cM, ivn, lix, lof, lln, el0, el1, hd1, cellOf, lstF, nodupB, ren, rens, encC, hW3, bN, lN, decN2, lg, Nod.eta, onNat, sigN, decN, encN, Nod.room, ri, rb, renB, rens, ren, sig, subH, updH, eng, litSt, srunA_nil, srunA_b, stepR, contB_mk, r0, regC, sop, unw, strip, sev, tg, tset, tput, undefs, needs, opNeeds, sBin, ibin, shiftOp, selC, sLoad, sField, sCall, cellsAt, hget, hset, hd1, lg, List.length_cons, List.length_nil, List.cons_append, List.nil_append, List.append_nil, List.map_cons, List.map_nil, List.take_succ_cons, List.take_zero, List.take_nil, List.drop_zero, List.contains_cons, List.contains_nil, List.getElem?_cons_zero, List.getElem?_cons_succ, true_and, and_self, or_true, not_false_eq_true, eq_self, ne_eq, Bool.false_eq_true, Bool.not_false, Bool.or_false, Bool.and_self, Nat.zero_add, Nat.add_zero, Nat.le_refl, Option.getD_some, reduceCtorEq, Nat.reduceAdd, Nat.reduceSub, Nat.reduceLT, Nat.reduceLeDiff, Nat.reduceBEq, tk3, ta3, tk30, ta30, tk41, ts41, ta41, tf41_0]
    exact hF _ _ _ ⟨trivial, by simp only [Try.f43, hT3, again_32, hk, hW3, encC, bN, lN, lg, ri, rb, retP, sResults, retV, vwk, vwks, vwk1, hwk, bwk, sc, scs, scEnts, lg, List.length_cons, List.length_nil, List.cons_append, List.nil_append, true_and, and_true, and_self, implies_true, eq_self, Bool.and_self, decide_true, Nat.zero_add, Nat.le_refl, Nat.reduceAdd, Nat.reduceLT] <;> (and_intros <;> first | rfl | (intro k hk; (rcases k with _ | _ | _ | k <;> first | rfl | omega)))⟩
  | false =>
    simp only [Try.f43, pl43, ΓV3, hT3, hk, cK, onK, decC2, ivn, hd1, cellOf, lstN, lstF, encC, hW3, bN, lN, lg, Cen.eta, says_word, ri, rb, eng, litSt, srunA_nil, srunA_b, stepR, contB_mk, r0, regC, sop, unw, strip, sev, tg, tset, tput, undefs, needs, opNeeds, sBin, ibin, shiftOp, selC, sLoad, sField, sCall, cellsAt, hget, hd1, lg, List.length_cons, List.length_nil, List.cons_append, List.nil_append, List.map_cons, List.map_nil, List.take_succ_cons, List.take_zero, List.take_nil, List.drop_succ_cons, List.drop_zero, true_and, and_self, or_true, not_false_eq_true, eq_self, ne_eq, Bool.false_eq_true, Nat.zero_add, Nat.add_zero, Nat.le_refl, reduceCtorEq, Nat.reduceAdd, Nat.reduceSub, Nat.reduceLeDiff, tk3, ta3, tk27, ta27, tk41, ts41, ta41, tf41_0, tf75_0]
    exact hF _ _ _ ⟨trivial, by simp only [Try.f43, hT3, again_32, hk, hW3, encC, bN, lN, lg, ri, rb, retP, sResults, retV, vwk, vwks, vwk1, hwk, bwk, sc, scs, scEnts, lg, List.length_cons, List.length_nil, List.cons_append, List.nil_append, true_and, and_true, and_self, implies_true, eq_self, Bool.and_self, decide_true, Nat.zero_add, Nat.le_refl, Nat.reduceAdd, Nat.reduceLT] <;> (and_intros <;> first | rfl | (intro k hk; (rcases k with _ | _ | _ | k <;> first | rfl | omega)))⟩
theorem renT3 (τ : Nat → Nat) (k : Nat) (hk : τ k = k) (t1 : ∀ j, j < 16 → τ j = j) (w : Wd) (slow a n m : Int) (s : Nat) : (hT3 k w slow a n m s).map (renB τ) = hT3 k w slow a n m s := by
  unfold hT3
  rw [List.map_append, renW3 τ (fun j hj => t1 j (by omega)) w]
  simp only [List.map_cons, List.map_nil, renB, rens, ren, ri, hk, t1 0 (by decide), t1 3 (by decide), t1 4 (by decide), t1 5 (by decide), t1 6 (by decide)]
theorem hwk_hT3 (k : Nat) (hk : k < 16) (w : Wd) (slow a n m : Int) (s : Nat) : hwk (hT3 k w slow a n m s).length (hT3 k w slow a n m s) (hT3 k w slow a n m s) := by
  have hk' : decide (k < 16) = true := by simpa using hk
  simp only [hT3, hW3, encC, bN, lN, ri, rb, hk, vwks, vwk1, hwk, bwk, sc, scs, scEnts, lg, List.length_cons, List.length_nil, List.cons_append, List.nil_append, true_and, and_true, and_self, implies_true, eq_self, Bool.and_self, decide_true, Nat.zero_add, Nat.le_refl, Nat.reduceAdd, Nat.reduceLT] <;> (and_intros <;> first | rfl | (intro k hk; (rcases k with _ | _ | _ | k <;> first | rfl | omega)))
/-- The closure of the law: the word is heard. -/
def on43_3 (H : List AB) : Res := match pix (cellOf (hget H 15) 0) with
  | 7 => ⟨(pix (cellOf (hget H 15) 0) = 7 ∧ H = hT3 7 (decV3 H (csOf (hget H 13))) (ivn (cellOf (hget H 13) 5)) (ivn (cellOf (hget H 14) 0)) (ivn (cellOf (hget H 14) 1)) (ivn (cellOf (hget H 14) 2)) (lln (cellOf (hget H 13) 2)) ++ H.drop 16) ∧ (decV3 H (csOf (hget H 13))).x0.len ≤ 1000000, .tup [], hT3 7 ((decV3 H (csOf (hget H 13))).again 0 (ivn (cellOf (hget H 14) 0)) (ivn (cellOf (hget H 14) 1)) (ivn (cellOf (hget H 14) 2))) (ivn (cellOf (hget H 13) 5)) (ivn (cellOf (hget H 14) 0)) (ivn (cellOf (hget H 14) 1)) (ivn (cellOf (hget H 14) 2)) (lln (cellOf (hget H 13) 2)) ++ H.drop 16⟩
  | 9 => ⟨(pix (cellOf (hget H 15) 0) = 9 ∧ H = hT3 9 (decV3 H (csOf (hget H 13))) (ivn (cellOf (hget H 13) 5)) (ivn (cellOf (hget H 14) 0)) (ivn (cellOf (hget H 14) 1)) (ivn (cellOf (hget H 14) 2)) (lln (cellOf (hget H 13) 2)) ++ H.drop 16) ∧ (decV3 H (csOf (hget H 13))).x1.len ≤ 1000000, .tup [], hT3 9 ((decV3 H (csOf (hget H 13))).again 1 (ivn (cellOf (hget H 14) 0)) (ivn (cellOf (hget H 14) 1)) (ivn (cellOf (hget H 14) 2))) (ivn (cellOf (hget H 13) 5)) (ivn (cellOf (hget H 14) 0)) (ivn (cellOf (hget H 14) 1)) (ivn (cellOf (hget H 14) 2)) (lln (cellOf (hget H 13) 2)) ++ H.drop 16⟩
  | _ => ⟨(pix (cellOf (hget H 15) 0) = 11 ∧ H = hT3 11 (decV3 H (csOf (hget H 13))) (ivn (cellOf (hget H 13) 5)) (ivn (cellOf (hget H 14) 0)) (ivn (cellOf (hget H 14) 1)) (ivn (cellOf (hget H 14) 2)) (lln (cellOf (hget H 13) 2)) ++ H.drop 16) ∧ (decV3 H (csOf (hget H 13))).x2.len ≤ 1000000, .tup [], hT3 11 ((decV3 H (csOf (hget H 13))).again 2 (ivn (cellOf (hget H 14) 0)) (ivn (cellOf (hget H 14) 1)) (ivn (cellOf (hget H 14) 2))) (ivn (cellOf (hget H 13) 5)) (ivn (cellOf (hget H 14) 0)) (ivn (cellOf (hget H 14) 1)) (ivn (cellOf (hget H 14) 2)) (lln (cellOf (hget H 13) 2)) ++ H.drop 16⟩
theorem on43_3_sound {E : Addr → Option Value} {H : List AB} (h : (on43_3 H).pre) : Ok Try.prog E 43 [.ptr 14 0, .ptr 15 0, .ptr 13 0] H (on43_3 H).val (on43_3 H).heap := by
  unfold on43_3 at h ⊢
  split at h
  · obtain ⟨⟨_, h1⟩, h2⟩ := h
    have h1' : H = hT3 7 (decV3 H (csOf (hget H 13))) (ivn (cellOf (hget H 13) 5)) (ivn (cellOf (hget H 14) 0)) (ivn (cellOf (hget H 14) 1)) (ivn (cellOf (hget H 14) 2)) (lln (cellOf (hget H 13) 2)) ++ H.drop 16 := h1
    show Ok Try.prog E 43 [.ptr 14 0, .ptr 15 0, .ptr 13 0] H (.tup []) (hT3 7 ((decV3 H (csOf (hget H 13))).again 0 (ivn (cellOf (hget H 14) 0)) (ivn (cellOf (hget H 14) 1)) (ivn (cellOf (hget H 14) 2))) (ivn (cellOf (hget H 13) 5)) (ivn (cellOf (hget H 14) 0)) (ivn (cellOf (hget H 14) 1)) (ivn (cellOf (hget H 14) 2)) (lln (cellOf (hget H 13) 2)) ++ H.drop 16)
    have key := ok43_30 E (decV3 H (csOf (hget H 13))) (ivn (cellOf (hget H 14) 0)) (ivn (cellOf (hget H 14) 1)) (ivn (cellOf (hget H 14) 2)) (ivn (cellOf (hget H 13) 5)) (lln (cellOf (hget H 13) 2)) h2
    revert key
    revert h1'
    generalize H.drop 16 = X
    generalize (decV3 H (csOf (hget H 13))) = w
    generalize ivn (cellOf (hget H 14) 0) = a
    generalize ivn (cellOf (hget H 14) 1) = n
    generalize ivn (cellOf (hget H 14) 2) = m
    generalize ivn (cellOf (hget H 13) 5) = sw
    generalize lln (cellOf (hget H 13) 2) = s
    intro h1' key
    rw [h1']
    have := Ok.first 16 (A := hT3 7 w sw a n m s) (B := hT3 7 (w.again 0 a n m) sw a n m s) (N := []) (by rw [List.append_nil]; exact key) X rfl rfl (fun τ t1 _ => ⟨by simp only [rens, ren, t1 13 (by decide), t1 14 (by decide), t1 15 (by decide)], renT3 τ 7 (t1 7 (by decide)) t1 _ _ _ _ _ _, renT3 τ 7 (t1 7 (by decide)) t1 _ _ _ _ _ _⟩) (by decide) (hwk_hT3 7 (by decide) _ _ _ _ _ _)
    simpa [ren, rens] using this
  · obtain ⟨⟨_, h1⟩, h2⟩ := h
    have h1' : H = hT3 9 (decV3 H (csOf (hget H 13))) (ivn (cellOf (hget H 13) 5)) (ivn (cellOf (hget H 14) 0)) (ivn (cellOf (hget H 14) 1)) (ivn (cellOf (hget H 14) 2)) (lln (cellOf (hget H 13) 2)) ++ H.drop 16 := h1
    show Ok Try.prog E 43 [.ptr 14 0, .ptr 15 0, .ptr 13 0] H (.tup []) (hT3 9 ((decV3 H (csOf (hget H 13))).again 1 (ivn (cellOf (hget H 14) 0)) (ivn (cellOf (hget H 14) 1)) (ivn (cellOf (hget H 14) 2))) (ivn (cellOf (hget H 13) 5)) (ivn (cellOf (hget H 14) 0)) (ivn (cellOf (hget H 14) 1)) (ivn (cellOf (hget H 14) 2)) (lln (cellOf (hget H 13) 2)) ++ H.drop 16)
    have key := ok43_31 E (decV3 H (csOf (hget H 13))) (ivn (cellOf (hget H 14) 0)) (ivn (cellOf (hget H 14) 1)) (ivn (cellOf (hget H 14) 2)) (ivn (cellOf (hget H 13) 5)) (lln (cellOf (hget H 13) 2)) h2
    revert key
    revert h1'
    generalize H.drop 16 = X
    generalize (decV3 H (csOf (hget H 13))) = w
    generalize ivn (cellOf (hget H 14) 0) = a
    generalize ivn (cellOf (hget H 14) 1) = n
    generalize ivn (cellOf (hget H 14) 2) = m
    generalize ivn (cellOf (hget H 13) 5) = sw
    generalize lln (cellOf (hget H 13) 2) = s
    intro h1' key
    rw [h1']
    have := Ok.first 16 (A := hT3 9 w sw a n m s) (B := hT3 9 (w.again 1 a n m) sw a n m s) (N := []) (by rw [List.append_nil]; exact key) X rfl rfl (fun τ t1 _ => ⟨by simp only [rens, ren, t1 13 (by decide), t1 14 (by decide), t1 15 (by decide)], renT3 τ 9 (t1 9 (by decide)) t1 _ _ _ _ _ _, renT3 τ 9 (t1 9 (by decide)) t1 _ _ _ _ _ _⟩) (by decide) (hwk_hT3 9 (by decide) _ _ _ _ _ _)
    simpa [ren, rens] using this
  · obtain ⟨⟨_, h1⟩, h2⟩ := h
    have h1' : H = hT3 11 (decV3 H (csOf (hget H 13))) (ivn (cellOf (hget H 13) 5)) (ivn (cellOf (hget H 14) 0)) (ivn (cellOf (hget H 14) 1)) (ivn (cellOf (hget H 14) 2)) (lln (cellOf (hget H 13) 2)) ++ H.drop 16 := h1
    show Ok Try.prog E 43 [.ptr 14 0, .ptr 15 0, .ptr 13 0] H (.tup []) (hT3 11 ((decV3 H (csOf (hget H 13))).again 2 (ivn (cellOf (hget H 14) 0)) (ivn (cellOf (hget H 14) 1)) (ivn (cellOf (hget H 14) 2))) (ivn (cellOf (hget H 13) 5)) (ivn (cellOf (hget H 14) 0)) (ivn (cellOf (hget H 14) 1)) (ivn (cellOf (hget H 14) 2)) (lln (cellOf (hget H 13) 2)) ++ H.drop 16)
    have key := ok43_32 E (decV3 H (csOf (hget H 13))) (ivn (cellOf (hget H 14) 0)) (ivn (cellOf (hget H 14) 1)) (ivn (cellOf (hget H 14) 2)) (ivn (cellOf (hget H 13) 5)) (lln (cellOf (hget H 13) 2)) h2
    revert key
    revert h1'
    generalize H.drop 16 = X
    generalize (decV3 H (csOf (hget H 13))) = w
    generalize ivn (cellOf (hget H 14) 0) = a
    generalize ivn (cellOf (hget H 14) 1) = n
    generalize ivn (cellOf (hget H 14) 2) = m
    generalize ivn (cellOf (hget H 13) 5) = sw
    generalize lln (cellOf (hget H 13) 2) = s
    intro h1' key
    rw [h1']
    have := Ok.first 16 (A := hT3 11 w sw a n m s) (B := hT3 11 (w.again 2 a n m) sw a n m s) (N := []) (by rw [List.append_nil]; exact key) X rfl rfl (fun τ t1 _ => ⟨by simp only [rens, ren, t1 13 (by decide), t1 14 (by decide), t1 15 (by decide)], renT3 τ 11 (t1 11 (by decide)) t1 _ _ _ _ _ _, renT3 τ 11 (t1 11 (by decide)) t1 _ _ _ _ _ _⟩) (by decide) (hwk_hT3 11 (by decide) _ _ _ _ _ _)
    simpa [ren, rens] using this
def ΓT3 : Con := fun f args H => match f with
  | .func 43 => match args with
    | [.ptr 14 0, .ptr 15 0, .ptr 13 0] => on43_3 H
    | _ => no
  | f => ΓV3 f args H
theorem ΓT3_sound (E : Addr → Option Value) : Con.Sound Try.prog E ΓT3 := by
  intro f args H h
  unfold ΓT3 at h ⊢
  split at h
  · split at h
    · exact on43_3_sound h
    · exact h.elim
  · exact ΓV3_sound E f args H h
def t9b_30 (nd : Int) (i : Nat) : List SV := [.junk, .junk, .raw (.int .u8 nd), .junk, .junk, .junk, .junk, .ptr 13 0, .junk, .junk, .junk, .junk, .junk, .junk, .junk, .junk, .ptr 14 0, .ptr 15 0, .fn (.func 43) [] [.ptr 14 0, .ptr 15 0, .ptr 13 0], ri (i : Int)] ++ junks 185
theorem round_30 (w : Wd) : w.round 0 = { w with x0 := w.x0.tk.ask, c := w.c.tick } := rfl
def t9b_31 (nd : Int) (i : Nat) : List SV := [.junk, .junk, .raw (.int .u8 nd), .junk, .junk, .junk, .junk, .ptr 13 0, .junk, .junk, .junk, .junk, .junk, .junk, .junk, .junk, .ptr 14 0, .ptr 15 0, .fn (.func 43) [] [.ptr 14 0, .ptr 15 0, .ptr 13 0], ri (i : Int)] ++ junks 185
theorem round_31 (w : Wd) : w.round 1 = { w with x1 := w.x1.tk.ask, c := w.c.tick } := rfl
def t9b_32 (nd : Int) (i : Nat) : List SV := [.junk, .junk, .raw (.int .u8 nd), .junk, .junk, .junk, .junk, .ptr 13 0, .junk, .junk, .junk, .junk, .junk, .junk, .junk, .junk, .ptr 14 0, .ptr 15 0, .fn (.func 43) [] [.ptr 14 0, .ptr 15 0, .ptr 13 0], ri (i : Int)] ++ junks 185
theorem round_32 (w : Wd) : w.round 2 = { w with x2 := w.x2.tk.ask, c := w.c.tick } := rfl
set_option maxHeartbeats 8000000 in
set_option maxRecDepth 100000 in
theorem ok9_3 (E : Addr → Option Value) (a b c nd : Int) (aa : Option Addr) (n cap : Nat) (e0 e1 : Nat → Int) (hE : Evts E aa n e0 e1) (ha : (IntKind.i64.wrap a).tmod 3 = 2) (hb : 0 ≤ b ∧ b < 256) (hc : 0 ≤ c ∧ c < 256) (hnd : 0 ≤ nd ∧ nd < 256) :
    Ok Try.prog E 9 [.agg [.raw (.int .u8 a), .raw (.int .u8 b), .raw (.int .u8 c)], .raw (.slice aa n cap), .raw (.int .u8 nd)] [] (rb true) [] := by
  refine ok_of_eng (pl := pl9) mixed (ΓT3_sound E) Try.func9 rfl rfl (by kernel_rfl) (by simp) 300 (fun F hF => ?_)
  cases hn : decide ((400 : Int) < n) with
  | true =>
    simp only [Try.f9, pl9, ΓT3, ΓV3, c16, hn, eng, litSt, srunA_nil, srunA_b, stepR, contB_mk, r0, regC, sop, unw, strip, sev, tg, tset, tput, undefs, needs, opNeeds, sBin, ibin, shiftOp, selC, sLen, sBox, sCall, sBuiltin, vcells, one, holeAt, idxAt, pushAt, List.length_cons, List.length_nil, List.cons_append, List.nil_append, List.map_cons, List.map_nil, List.all_cons, List.all_nil, true_and, and_self, or_true, eq_self, Bool.false_eq_true, Bool.and_self, Nat.zero_add, Value.oneCell', Nat.reduceAdd, Nat.reduceSub, te70]
    exact hF _ _ _ ⟨trivial, by simp only [Try.f9, rb, retP, sResults, sRes1, resK, retV, vwk, vwk1, hwk, sc, tg, List.length_nil, and_self, eq_self, Nat.le_refl]⟩
  | false =>
    have hn' : n ≤ 400 := by simp at hn; omega
    have hT := lT_le hb
    have hS := lS0_le hc
    have hT' : 1 ≤ lT b ∧ lT b ≤ 12 := ⟨hT.1, hT.2.1⟩
    have hT0 : IntKind.i64.wrap (1 + (IntKind.i64.wrap b).tmod 12) = lT b := rfl
    have hl : layOk3 a b c = True := eq_true ⟨ha, cenOk_of (by decide) hT' hS, nodeOk_of (by decide) hT', nodeOk_of (by decide) hT', nodeOk_of (by decide) hT'⟩
    simp only [Try.f9, pl9, ΓT3, ΓV3, c40_3, hl, hT0, eW0_3, w0_3, newC, newN, hn, hd1, ren, rens, encC, hW3, bN, lN, lg, cast3, ri, rb, renB, rens, ren, renEnts, sig, updH, eng, litSt, srunA_nil, srunA_b, stepR, contB_mk, r0, regC, sop, unw, strip, sev, tg, tset, tput, undefs, needs, opNeeds, sBin, ibin, shiftOp, selC, sLoad, sStore, sExtract, sIndex, sLen, sNew, sAlloc, sBox, sCall, sBuiltin, sConv, cellsAt, hget, hset, hd1, vcells, one, splice, holeAt, idxAt, pushAt, lg, List.length_cons, List.length_nil, List.cons_append, List.nil_append, List.append_nil, List.map_cons, List.map_nil, List.take_succ_cons, List.take_zero, List.take_nil, List.drop_succ_cons, List.drop_zero, List.drop_nil, List.all_cons, List.all_nil, List.getElem?_cons_zero, List.getElem?_cons_succ, List.getElem?_nil, true_and, and_self, or_true, not_false_eq_true, eq_self, ne_eq, Bool.false_eq_true, Bool.and_self, Nat.zero_add, Nat.add_zero, Nat.mul_one, Nat.sub_zero, Nat.le_refl, Option.getD_none, Value.oneCell', Nat.reduceAdd, Nat.reduceSub, Nat.reduceLeDiff, Int.reduceLT, Int.reduceLE, Int.reduceEq, Int.reduceToNat, ti3, tk5, ts5, ta5, ti5, tk69, ts69, ta69, tr69, te70, tk75, ts75, tz75]
    refine ⟨Nat × Wd, fun x => t9_3 (.slice aa n cap) nd (lT b) x.1, fun x => h9_3 x.2, fun x => x.1 ≤ n ∧ Run 3 (lT b) (lS0 c) x.1 x.2, fun x => n - x.1, (0, w0_3 (lT b) (lS0 c)), ⟨Nat.zero_le _, run0_3 hT' hS⟩, ⟨some [1, 2, 3, 4, 5, 6, 7, 8, 9, 10, 11, 12, 13, 14], ?_⟩, ?_⟩
    · simp only [NwO, Nw, t9_3, h9_3, w0_3, newC, newN, hW3, encC, bN, lN, lg, junks, ri, rb, Int.natCast_zero, NwO, Nw, wk, renJ, renJs, mvH, hgetO, memB, posG, jp, renJB, renJEnts, vwks, vwk1, hwk, bwk, sc, scs, scEnts, lg, List.length_cons, List.length_nil, List.cons_append, List.nil_append, List.take_zero, true_and, and_true, and_self, implies_true, eq_self, Bool.and_self, decide_true, decide_false, Nat.zero_add, Nat.add_zero, Nat.le_refl, reduceCtorEq, Nat.reduceAdd, Nat.reduceLT, Nat.reduceLeDiff, Nat.reduceEqDiff, Int.reduceToNat] <;> (and_intros <;> first | rfl | (intro k hk; (rcases k with _ | _ | _ | k <;> first | rfl | omega)))
    · rintro ⟨i, w⟩ ⟨hi, hr⟩ F' hN hX
      have hdn := hr.rest
      cases hlt : decide ((i : Int) < n) with
      | false =>
        simp only [t9_3, h9_3, junks, pl9, hlt, ri, eng, litSt, srunA_nil, srunA_b, stepR, contB_mk, r0, r1, r2, regC, sop, unw, strip, sev, tg, tset, tput, needs, opNeeds, sBin, ibin, shiftOp, gb, gslot, gdst, onth, wants, sPick, selC, sLen, sBuiltin, List.cons_append, List.nil_append, List.map_cons, List.map_nil, true_and, and_self, or_true, implies_true, eq_self, Bool.true_eq_false, Bool.false_eq_true, Bool.cond_true, ↓reduceIte, te70]
        refine hX _ _ _ (by simp) ?_
        cases hs : decide ((w.sl : Int) = 0) with
        | true =>
          simp only [popF, pl9, ΓT3, ΓV3, c16, hs, hd1, encC, hW3, bN, lN, lg, ri, rb, eng, litSt, srunA_nil, srunA_b, stepR, contB_mk, r0, regC, sop, unw, strip, sev, tg, tset, tput, needs, opNeeds, sBin, ibin, shiftOp, popF, selC, exitC, sLoad, sField, sLen, sCall, sBuiltin, sUn, cellsAt, hget, hd1, lg, List.length_cons, List.length_nil, List.cons_append, List.nil_append, List.map_cons, List.map_nil, List.take_succ_cons, List.take_zero, List.drop_succ_cons, List.drop_zero, true_and, and_self, or_true, not_false_eq_true, eq_self, ne_eq, Bool.false_eq_true, Bool.not_true, Nat.zero_add, reduceCtorEq, Nat.reduceAdd, Nat.reduceLeDiff, Nat.reduceBEq, tk72, ta72, te72, tf75_2]
          exact hF _ _ _ ⟨trivial, by simp only [Try.f9, rb, retP, sResults, sRes1, resK, retV, vwk, vwk1, hwk, sc, tg, List.length_nil, and_self, eq_self, Nat.le_refl]⟩
        | false =>
          have hs0 : w.sl ≠ 0 := by simpa using hs
          obtain ⟨j, hj⟩ : ∃ j, w.sl = j + 1 := ⟨w.sl - 1, by omega⟩
          have hsl : (w.sl : Int) ≤ (i : Nat) := hr.base.sl
          have hidx : IntKind.i64.wrap ((w.sl : Int) - 1) = (j : Int) := by rw [w64 (by omega) (by omega)]; omega
          have hjl : ((j : Int) < (w.sl : Int)) = True := by simp; omega
          have hb3 : 1 ≤ w.sn j ∧ w.sn j ≤ (3 : Nat) := (hr.base.sent j (show j < w.sl by omega)).2.1
          have hk3 : w.sn j = 1 ∨ w.sn j = 2 ∨ w.sn j = 3 := by omega
          rcases hk3 with q | q | q
          · obtain ⟨hI0, hln⟩ := twice0 (by decide) hT' (by omega) hr (show j < w.sl by omega) (k := 0) (by rw [q]; rfl)
            have q1 : ¬ (w.sn j < 1) := by omega
            have q2 : ¬ (3 < w.sn j) := by omega
            have hww : IntKind.i64.wrap 0 = 0 := by decide
            simp only [Wd.nd, Int.natCast_zero, Int.reduceAdd] at hI0 hln
            generalize hak : w.sk j = ak at *
            generalize hm : w.sm j = m at *
            have hr1 : ∀ k, 3 ≤ k → k < 3 → (w.again 0 ak 1 m).nd k = dN := fun i h1 h3 => by rw [← hr.rest i h1 h3]; exact again_rest w (by omega) _ _ _
            simp only [popF, pl9, ΓT3, on43_3, hT3, csOf, pix, hs, q, hak, hm, hidx, hjl, hww, hln, decV3, decC2, ivn, lof, lln, el0, el1, el2, hd1, cellOf, lstN, lstF, encC, hW3, bN, lN, decN2, lg, Cen.eta, Nod.eta, cast3, etaL3 w, ri, rb, eng, litSt, srunA_nil, srunA_b, stepR, contB_mk, r0, r1, r2, regC, sop, unw, strip, sev, tg, tset, tput, needs, opNeeds, sBin, ibin, shiftOp, gb, gslot, gdst, onth, wants, sPick, popF, selC, exitC, sLoad, sStore, sField, sIndex, sLen, sNew, sAlloc, sCall, sBuiltin, sUn, cellsAt, hget, hset, hd1, vcells, one, splice, holeAt, idxAt, pushAt, lg, List.length_cons, List.length_nil, List.cons_append, List.nil_append, List.append_nil, List.map_cons, List.map_nil, List.take_succ_cons, List.take_zero, List.take_nil, List.drop_succ_cons, List.drop_zero, List.drop_nil, List.all_cons, List.all_nil, true_and, and_true, and_self, or_true, implies_true, not_false_eq_true, eq_self, ne_eq, Bool.false_eq_true, Bool.not_true, Bool.not_false, Bool.and_self, Bool.cond_false, decide_false, Nat.zero_add, Nat.add_zero, Nat.le_refl, Int.toNat_natCast, Int.toNat_zero, Int.natCast_nonneg, reduceCtorEq, Value.oneCell', ↓reduceIte, Nat.reduceAdd, Nat.reduceLT, Nat.reduceLeDiff, Nat.reduceBEq, Int.reduceLT, Int.reduceLE, Int.reduceSub, tk3, ta3, tk30, ts30, ta30, tz30, tk41, ts41, ta41, tz41, tf41_1, tk71, ta71, te71, tk72, ta72, te72, tf75_1, tf75_2]
            have h5 := tmod_lt hnd.1 (show (0 : Int) < 5 by decide)
            rw [← wrap_byte hnd.1 hnd.2] at h5
            refine ⟨(show j < w.sl by omega), Nat × Wd, fun x => t9b_30 nd x.1, fun x => hT3 7 x.2 x.2.slow ak 1 m x.2.sl, fun x => (TwI 3 0 (lT b) ak m x.1 x.2 ∧ (∀ i, 3 ≤ i → i < 3 → x.2.nd i = dN)) ∧ (x.1 : Int) ≤ (IntKind.i64.wrap nd).tmod 5, fun x => 5 - x.1, (0, w.again 0 ak 1 m), ⟨⟨hI0, hr1⟩, by simp only; omega⟩, ⟨none, ?_⟩, ?_⟩
            · simp only [NwO, Nw, t9b_30, hT3, again_sl, again_slow, hW3, encC, bN, lN, lg, junks, ri, rb, Int.natCast_zero, NwO, Nw, wk, vwks, vwk1, hwk, bwk, sc, scs, scEnts, lg, List.length_cons, List.length_nil, List.cons_append, List.nil_append, true_and, and_true, and_self, implies_true, eq_self, Bool.and_self, decide_true, Nat.zero_add, Nat.le_refl, Nat.reduceAdd, Nat.reduceLT, Nat.reduceLeDiff] <;> (and_intros <;> first | rfl | (intro k hk; (rcases k with _ | _ | _ | k <;> first | rfl | omega)))
            · rintro ⟨j2, u⟩ ⟨⟨hy, hyr⟩, hj2⟩ F3 hN3 hX3
              have hyl : u.x0.len ≤ 1000000 := by have := hy.nod.len; have := hy.hj; simp only [Wd.nd] at *; omega
              cases hlt2 : decide ((j2 : Int) < (IntKind.i64.wrap nd).tmod 5) with
              | true =>
                have hl5 : (j2 : Int) < (IntKind.i64.wrap nd).tmod 5 := of_decide_eq_true hlt2
                have hw2 : IntKind.i64.wrap ((j2 : Int) + 1) = j2 + 1 := wrap1 (by omega) (by omega)
                have hyl2 : u.x0.tk.len ≤ 1000000 := hyl
                simp only [t9b_30, hT3, junks, pl9, ΓT3, ΓV3, hlt2, hw2, hyl2, cK, onK, cM, decC2, ivn, lix, lof, lln, el0, el1, hd1, cellOf, lstN, lstF, nodupB, ren, rens, encC, hW3, bN, lN, decN2, lg, Cen.eta, Nod.eta, onNat, allN, sigN, decN, encN, encN2, Nod.room, ask_word, ri, rb, renB, rens, ren, sig, subH, updH, eng, litSt, srunA_nil, srunA_b, stepR, contB_mk, r0, regC, sop, unw, strip, sev, tg, tset, tput, needs, opNeeds, sBin, ibin, shiftOp, selC, sLoad, sField, sCall, sConv, cellsAt, hget, hset, hd1, lg, List.length_cons, List.length_nil, List.cons_append, List.nil_append, List.append_nil, List.map_cons, List.map_nil, List.take_succ_cons, List.take_zero, List.take_nil, List.drop_succ_cons, List.drop_zero, List.contains_cons, List.contains_nil, List.getElem?_cons_zero, List.getElem?_cons_succ, List.getElem?_nil, true_and, and_self, or_true, not_false_eq_true, eq_self, ne_eq, Bool.false_eq_true, Bool.not_false, Bool.or_false, Bool.and_self, Nat.zero_add, Nat.add_zero, Nat.le_refl, Option.getD_some, Option.getD_none, reduceCtorEq, Nat.reduceAdd, Nat.reduceSub, Nat.reduceLT, Nat.reduceLeDiff, Nat.reduceBEq, Int.reduceEq, ti3, ti5, tk27, ta27, tk30, ta30, tf75_0]
                refine hN3 (some [0, 1, 2, 3, 4, 5, 6, 7, 16, 9, 10, 11, 12, 13, 14, 15]) (j2 + 1, u.round 0) _ _ ⟨⟨hy.step (by omega), fun i h1 h3 => by rw [← hyr i h1 h3]; exact round_rest u (by omega)⟩, by simp only; omega⟩ (by simp only; omega) ?_
                simp only [NwO, Nw, t9b_30, hT3, round_30, hW3, encC, bN, lN, lg, junks, ri, rb, Int.natCast_add, Int.natCast_one, NwO, Nw, wk, renJ, renJs, mvH, hgetO, memB, posG, jp, renJB, renJEnts, vwks, vwk1, hwk, bwk, sc, scs, scEnts, lg, List.length_cons, List.length_nil, List.cons_append, List.nil_append, List.take_zero, true_and, and_true, and_self, implies_true, eq_self, Bool.and_self, decide_true, decide_false, Nat.zero_add, Nat.le_refl, reduceCtorEq, Nat.reduceAdd, Nat.reduceLT, Nat.reduceLeDiff, Nat.reduceEqDiff] <;> (and_intros <;> first | rfl | (intro k hk; (rcases k with _ | _ | _ | k <;> first | rfl | omega)))
              | false =>
                obtain ⟨v1, v2, v3, v4⟩ := hy.same
                simp only [Wd.nd, Int.natCast_zero, Int.reduceAdd] at v1 v2 v3 v4
                simp only [t9b_30, hT3, junks, pl9, hlt2, encC, hW3, bN, lN, lg, ri, rb, eng, litSt, srunA_nil, srunA_b, stepR, contB_mk, r0, regC, sop, unw, strip, sev, tg, tset, tput, needs, opNeeds, sBin, ibin, shiftOp, selC, sConv, lg, List.cons_append, List.nil_append, true_and, and_self, or_true, not_false_eq_true, eq_self, ne_eq, Bool.false_eq_true, Int.reduceEq, ti3, ti5]
                refine hX3 _ _ _ (by simp) ?_
                simp only [popF, pl9, ΓT3, on43_3, hT3, csOf, pix, ΓV3, c16, hyl, v1, v2, v3, v4, decV3, cK, onK, cM, decC2, ivn, lix, lof, lln, el0, el1, el2, hd1, cellOf, lstN, lstF, nodupB, ren, rens, encC, hW3, bN, lN, decN2, lg, Cen.eta, Nod.eta, onNat, allN, sigN, decN, encN, etaL3 u, ri, rb, renB, rens, ren, sig, subH, updH, eng, litSt, srunA_nil, srunA_b, stepR, contB_mk, r0, r1, r2, regC, sop, unw, strip, sev, tg, tset, tput, needs, opNeeds, sBin, ibin, shiftOp, gb, gslot, gdst, onth, wants, sPick, popF, exitC, sLoad, sExtract, sField, sCall, cellsAt, hget, hset, hd1, lg, List.length_cons, List.length_nil, List.cons_append, List.nil_append, List.append_nil, List.map_cons, List.map_nil, List.take_succ_cons, List.take_zero, List.take_nil, List.drop_succ_cons, List.drop_zero, List.drop_nil, List.contains_cons, List.contains_nil, List.getElem?_cons_zero, List.getElem?_cons_succ, true_and, and_self, or_true, implies_true, not_false_eq_true, eq_self, ne_eq, Bool.true_eq_false, Bool.false_eq_true, Bool.not_false, Bool.or_false, Bool.and_self, Bool.cond_true, Nat.zero_add, Nat.add_zero, Nat.le_refl, Option.getD_some, reduceCtorEq, ↓reduceIte, Nat.reduceAdd, Nat.reduceSub, Nat.reduceLT, Nat.reduceLeDiff, Nat.reduceBEq, tk27, ta27, tk30, ta30, tf75_0]
                exact hF _ _ _ ⟨trivial, by simp only [Try.f9, rb, retP, sResults, sRes1, resK, retV, vwk, vwk1, hwk, sc, tg, List.length_nil, and_self, eq_self, Nat.le_refl]⟩
          · obtain ⟨hI0, hln⟩ := twice0 (by decide) hT' (by omega) hr (show j < w.sl by omega) (k := 1) (by rw [q]; rfl)
            have q1 : ¬ (w.sn j < 1) := by omega
            have q2 : ¬ (3 < w.sn j) := by omega
            have hww : IntKind.i64.wrap 1 = 1 := by decide
            simp only [Wd.nd, cast1, Int.reduceAdd] at hI0 hln
            generalize hak : w.sk j = ak at *
            generalize hm : w.sm j = m at *
            have hr1 : ∀ k, 3 ≤ k → k < 3 → (w.again 1 ak 2 m).nd k = dN := fun i h1 h3 => by rw [← hr.rest i h1 h3]; exact again_rest w (by omega) _ _ _
            simp only [popF, pl9, ΓT3, on43_3, hT3, csOf, pix, hs, q, hak, hm, hidx, hjl, hww, hln, decV3, decC2, ivn, lof, lln, el0, el1, el2, hd1, cellOf, lstN, lstF, encC, hW3, bN, lN, decN2, lg, Cen.eta, Nod.eta, cast3, etaL3 w, ri, rb, eng, litSt, srunA_nil, srunA_b, stepR, contB_mk, r0, r1, r2, regC, sop, unw, strip, sev, tg, tset, tput, needs, opNeeds, sBin, ibin, shiftOp, gb, gslot, gdst, onth, wants, sPick, popF, selC, exitC, sLoad, sStore, sField, sIndex, sLen, sNew, sAlloc, sCall, sBuiltin, sUn, cellsAt, hget, hset, hd1, vcells, one, splice, holeAt, idxAt, pushAt, lg, List.length_cons, List.length_nil, List.cons_append, List.nil_append, List.append_nil, List.map_cons, List.map_nil, List.take_succ_cons, List.take_zero, List.take_nil, List.drop_succ_cons, List.drop_zero, List.drop_nil, List.all_cons, List.all_nil, true_and, and_true, and_self, or_true, implies_true, not_false_eq_true, eq_self, ne_eq, Bool.false_eq_true, Bool.not_true, Bool.not_false, Bool.and_self, Bool.cond_false, decide_false, Nat.zero_add, Nat.le_refl, Int.toNat_natCast, Int.natCast_nonneg, reduceCtorEq, Value.oneCell', ↓reduceIte, Nat.reduceAdd, Nat.reduceLT, Nat.reduceLeDiff, Nat.reduceBEq, Int.reduceLT, Int.reduceLE, Int.reduceToNat, Int.reduceSub, tk3, ta3, tk30, ts30, ta30, tz30, tk41, ts41, ta41, tz41, tf41_1, tk71, ta71, te71, tk72, ta72, te72, tf75_1, tf75_2]
            have h5 := tmod_lt hnd.1 (show (0 : Int) < 5 by decide)
            rw [← wrap_byte hnd.1 hnd.2] at h5
            refine ⟨(show j < w.sl by omega), Nat × Wd, fun x => t9b_31 nd x.1, fun x => hT3 9 x.2 x.2.slow ak 2 m x.2.sl, fun x => (TwI 3 1 (lT b) ak m x.1 x.2 ∧ (∀ i, 3 ≤ i → i < 3 → x.2.nd i = dN)) ∧ (x.1 : Int) ≤ (IntKind.i64.wrap nd).tmod 5, fun x => 5 - x.1, (0, w.again 1 ak 2 m), ⟨⟨hI0, hr1⟩, by simp only; omega⟩, ⟨none, ?_⟩, ?_⟩
            · simp only [NwO, Nw, t9b_31, hT3, again_sl, again_slow, hW3, encC, bN, lN, lg, junks, ri, rb, Int.natCast_zero, NwO, Nw, wk, vwks, vwk1, hwk, bwk, sc, scs, scEnts, lg, List.length_cons, List.length_nil, List.cons_append, List.nil_append, true_and, and_true, and_self, implies_true, eq_self, Bool.and_self, decide_true, Nat.zero_add, Nat.le_refl, Nat.reduceAdd, Nat.reduceLT, Nat.reduceLeDiff] <;> (and_intros <;> first | rfl | (intro k hk; (rcases k with _ | _ | _ | k <;> first | rfl | omega)))
            · rintro ⟨j2, u⟩ ⟨⟨hy, hyr⟩, hj2⟩ F3 hN3 hX3
              have hyl : u.x1.len ≤ 1000000 := by have := hy.nod.len; have := hy.hj; simp only [Wd.nd] at *; omega
              cases hlt2 : decide ((j2 : Int) < (IntKind.i64.wrap nd).tmod 5) with
              | true =>
                have hl5 : (j2 : Int) < (IntKind.i64.wrap nd).tmod 5 := of_decide_eq_true hlt2
                have hw2 : IntKind.i64.wrap ((j2 : Int) + 1) = j2 + 1 := wrap1 (by omega) (by omega)
                have hyl2 : u.x1.tk.len ≤ 1000000 := hyl
                simp only [t9b_31, hT3, junks, pl9, ΓT3, ΓV3, hlt2, hw2, hyl2, cK, onK, cM, decC2, ivn, lix, lof, lln, el0, el1, hd1, cellOf, lstN, lstF, nodupB, ren, rens, encC, hW3, bN, lN, decN2, lg, Cen.eta, Nod.eta, onNat, allN, sigN, decN, encN, encN2, Nod.room, ask_word, ri, rb, renB, rens, ren, sig, subH, updH, eng, litSt, srunA_nil, srunA_b, stepR, contB_mk, r0, regC, sop, unw, strip, sev, tg, tset, tput, needs, opNeeds, sBin, ibin, shiftOp, selC, sLoad, sField, sCall, sConv, cellsAt, hget, hset, hd1, lg, List.length_cons, List.length_nil, List.cons_append, List.nil_append, List.append_nil, List.map_cons, List.map_nil, List.take_succ_cons, List.take_zero, List.take_nil, List.drop_succ_cons, List.drop_zero, List.contains_cons, List.contains_nil, List.getElem?_cons_zero, List.getElem?_cons_succ, List.getElem?_nil, true_and, and_self, or_true, not_false_eq_true, eq_self, ne_eq, Bool.false_eq_true, Bool.not_false, Bool.or_false, Bool.and_self, Nat.zero_add, Nat.add_zero, Nat.le_refl, Option.getD_some, Option.getD_none, reduceCtorEq, Nat.reduceAdd, Nat.reduceSub, Nat.reduceLT, Nat.reduceLeDiff, Nat.reduceBEq, Int.reduceEq, ti3, ti5, tk27, ta27, tk30, ta30, tf75_0]
                refine hN3 (some [0, 1, 2, 3, 4, 5, 6, 7, 8, 9, 16, 11, 12, 13, 14, 15]) (j2 + 1, u.round 1) _ _ ⟨⟨hy.step (by omega), fun i h1 h3 => by rw [← hyr i h1 h3]; exact round_rest u (by omega)⟩, by simp only; omega⟩ (by simp only; omega) ?_
                simp only [NwO, Nw, t9b_31, hT3, round_31, hW3, encC, bN, lN, lg, junks, ri, rb, Int.natCast_add, Int.natCast_one, NwO, Nw, wk, renJ, renJs, mvH, hgetO, memB, posG, jp, renJB, renJEnts, vwks, vwk1, hwk, bwk, sc, scs, scEnts, lg, List.length_cons, List.length_nil, List.cons_append, List.nil_append, List.take_zero, true_and, and_true, and_self, implies_true, eq_self, Bool.and_self, decide_true, decide_false, Nat.zero_add, Nat.le_refl, reduceCtorEq, Nat.reduceAdd, Nat.reduceLT, Nat.reduceLeDiff, Nat.reduceEqDiff] <;> (and_intros <;> first | rfl | (intro k hk; (rcases k with _ | _ | _ | k <;> first | rfl | omega)))
              | false =>
                obtain ⟨v1, v2, v3, v4⟩ := hy.same
                simp only [Wd.nd, cast1, Int.reduceAdd] at v1 v2 v3 v4
                simp only [t9b_31, hT3, junks, pl9, hlt2, encC, hW3, bN, lN, lg, ri, rb, eng, litSt, srunA_nil, srunA_b, stepR, contB_mk, r0, regC, sop, unw, strip, sev, tg, tset, tput, needs, opNeeds, sBin, ibin, shiftOp, selC, sConv, lg, List.cons_append, List.nil_append, true_and, and_self, or_true, not_false_eq_true, eq_self, ne_eq, Bool.false_eq_true, Int.reduceEq, ti3, ti5]
                refine hX3 _ _ _ (by simp) ?_
                simp only [popF, pl9, ΓT3, on43_3, hT3, csOf, pix, ΓV3, c16, hyl, v1, v2, v3, v4, decV3, cK, onK, cM, decC2, ivn, lix, lof, lln, el0, el1, el2, hd1, cellOf, lstN, lstF, nodupB, ren, rens, encC, hW3, bN, lN, decN2, lg, Cen.eta, Nod.eta, onNat, allN, sigN, decN, encN, etaL3 u, ri, rb, renB, rens, ren, sig, subH, updH, eng, litSt, srunA_nil, srunA_b, stepR, contB_mk, r0, r1, r2, regC, sop, unw, strip, sev, tg, tset, tput, needs, opNeeds, sBin, ibin, shiftOp, gb, gslot, gdst, onth, wants, sPick, popF, exitC, sLoad, sExtract, sField, sCall, cellsAt, hget, hset, hd1, lg, List.length_cons, List.length_nil, List.cons_append, List.nil_append, List.append_nil, List.map_cons, List.map_nil, List.take_succ_cons, List.take_zero, List.take_nil, List.drop_succ_cons, List.drop_zero, List.drop_nil, List.contains_cons, List.contains_nil, List.getElem?_cons_zero, List.getElem?_cons_succ, true_and, and_self, or_true, implies_true, not_false_eq_true, eq_self, ne_eq, Bool.true_eq_false, Bool.false_eq_true, Bool.not_false, Bool.or_false, Bool.and_self, Bool.cond_true, Nat.zero_add, Nat.add_zero, Nat.le_refl, Option.getD_some, reduceCtorEq, ↓reduceIte, Nat.reduceAdd, Nat.reduceSub, Nat.reduceLT, Nat.reduceLeDiff, Nat.reduceBEq, tk27, ta27, tk30, ta30, tf75_0]
                exact hF _ _ _ ⟨trivial, by simp only [Try.f9, rb, retP, sResults, sRes1, resK, retV, vwk, vwk1, hwk, sc, tg, List.length_nil, and_self, eq_self, Nat.le_refl]⟩
          · obtain ⟨hI0, hln⟩ := twice0 (by decide) hT' (by omega) hr (show j < w.sl by omega) (k := 2) (by rw [q]; rfl)
            have q1 : ¬ (w.sn j < 1) := by omega
            have q2 : ¬ (3 < w.sn j) := by omega
            have hww : IntKind.i64.wrap 2 = 2 := by decide
            simp only [Wd.nd, cast2, Int.reduceAdd] at hI0 hln
            generalize hak : w.sk j = ak at *
            generalize hm : w.sm j = m at *
            have hr1 : ∀ k, 3 ≤ k → k < 3 → (w.again 2 ak 3 m).nd k = dN := fun i h1 h3 => by rw [← hr.rest i h1 h3]; exact again_rest w (by omega) _ _ _
            simp only [popF, pl9, ΓT3, on43_3, hT3, csOf, pix, hs, q, hak, hm, hidx, hjl, hww, hln, decV3, decC2, ivn, lof, lln, el0, el1, el2, hd1, cellOf, lstN, lstF, encC, hW3, bN, lN, decN2, lg, Cen.eta, Nod.eta, cast3, etaL3 w, ri, rb, eng, litSt, srunA_nil, srunA_b, stepR, contB_mk, r0, r1, r2, regC, sop, unw, strip, sev, tg, tset, tput, needs, opNeeds, sBin, ibin, shiftOp, gb, gslot, gdst, onth, wants, sPick, popF, selC, exitC, sLoad, sStore, sField, sIndex, sLen, sNew, sAlloc, sCall, sBuiltin, sUn, cellsAt, hget, hset, hd1, vcells, one, splice, holeAt, idxAt, pushAt, lg, List.length_cons, List.length_nil, List.cons_append, List.nil_append, List.append_nil, List.map_cons, List.map_nil, List.take_succ_cons, List.take_zero, List.take_nil, List.drop_succ_cons, List.drop_zero, List.drop_nil, List.all_cons, List.all_nil, true_and, and_true, and_self, or_true, implies_true, not_false_eq_true, eq_self, ne_eq, Bool.false_eq_true, Bool.not_true, Bool.not_false, Bool.and_self, Bool.cond_false, decide_false, Nat.zero_add, Nat.le_refl, Int.toNat_natCast, Int.natCast_nonneg, reduceCtorEq, Value.oneCell', ↓reduceIte, Nat.reduceAdd, Nat.reduceLT, Nat.reduceLeDiff, Nat.reduceBEq, Int.reduceLT, Int.reduceLE, Int.reduceToNat, Int.reduceSub, tk3, ta3, tk30, ts30, ta30, tz30, tk41, ts41, ta41, tz41, tf41_1, tk71, ta71, te71, tk72, ta72, te72, tf75_1, tf75_2]
            have h5 := tmod_lt hnd.1 (show (0 : Int) < 5 by decide)
            rw [← wrap_byte hnd.1 hnd.2] at h5
            refine ⟨(show j < w.sl by omega), Nat × Wd, fun x => t9b_32 nd x.1, fun x => hT3 11 x.2 x.2.slow ak 3 m x.2.sl, fun x => (TwI 3 2 (lT b) ak m x.1 x.2 ∧ (∀ i, 3 ≤ i → i < 3 → x.2.nd i = dN)) ∧ (x.1 : Int) ≤ (IntKind.i64.wrap nd).tmod 5, fun x => 5 - x.1, (0, w.again 2 ak 3 m), ⟨⟨hI0, hr1⟩, by simp only; omega⟩, ⟨none, ?_⟩, ?_⟩
            · simp only [NwO, Nw, t9b_32, hT3, again_sl, again_slow, hW3, encC, bN, lN, lg, junks, ri, rb, Int.natCast_zero, NwO, Nw, wk, vwks, vwk1, hwk, bwk, sc, scs, scEnts, lg, List.length_cons, List.length_nil, List.cons_append, List.nil_append, true_and, and_true, and_self, implies_true, eq_self, Bool.and_self, decide_true, Nat.zero_add, Nat.le_refl, Nat.reduceAdd, Nat.reduceLT, Nat.reduceLeDiff] <;> (and_intros <;> first | rfl | (intro k hk; (rcases k with _ | _ | _ | k <;> first | rfl | omega)))
            · rintro ⟨j2, u⟩ ⟨⟨hy, hyr⟩, hj2⟩ F3 hN3 hX3
              have hyl : u.x2.len ≤ 1000000 := by have := hy.nod.len; have := hy.hj; simp only [Wd.nd] at *; omega
              cases hlt2 : decide ((j2 : Int) < (IntKind.i64.wrap nd).tmod 5) with
              | true =>
                have hl5 : (j2 : Int) < (IntKind.i64.wrap nd).tmod 5 := of_decide_eq_true hlt2
                have hw2 : IntKind.i64.wrap ((j2 : Int) + 1) = j2 + 1 := wrap1 (by omega) (by omega)
                have hyl2 : u.x2.tk.len ≤ 1000000 := hyl
                simp only [t9b_32, hT3, junks, pl9, ΓT3, ΓV3, hlt2, hw2, hyl2, cK, onK, cM, decC2, ivn, lix, lof, lln, el0, el1, hd1, cellOf, lstN, lstF, nodupB, ren, rens, encC, hW3, bN, lN, decN2, lg, Cen.eta, Nod.eta, onNat, allN, sigN, decN, encN, encN2, Nod.room, ask_word, ri, rb, renB, rens, ren, sig, subH, updH, eng, litSt, srunA_nil, srunA_b, stepR, contB_mk, r0, regC, sop, unw, strip, sev, tg, tset, tput, needs, opNeeds, sBin, ibin, shiftOp, selC, sLoad, sField, sCall, sConv, cellsAt, hget, hset, hd1, lg, List.length_cons, List.length_nil, List.cons_append, List.nil_append, List.append_nil, List.map_cons, List.map_nil, List.take_succ_cons, List.take_zero, List.take_nil, List.drop_succ_cons, List.drop_zero, List.contains_cons, List.contains_nil, List.getElem?_cons_zero, List.getElem?_cons_succ, List.getElem?_nil, true_and, and_self, or_true, not_false_eq_true, eq_self, ne_eq, Bool.false_eq_true, Bool.not_false, Bool.or_false, Bool.and_self, Nat.zero_add, Nat.add_zero, Nat.le_refl, Option.getD_some, Option.getD_none, reduceCtorEq, Nat.reduceAdd, Nat.reduceSub, Nat.reduceLT, Nat.reduceLeDiff, Nat.reduceBEq, Int.reduceEq, ti3, ti5, tk27, ta27, tk30, ta30, tf75_0]
                refine hN3 (some [0, 1, 2, 3, 4, 5, 6, 7, 8, 9, 10, 11, 16, 13, 14, 15]) (j2 + 1, u.round 2) _ _ ⟨⟨hy.step (by omega), fun i h1 h3 => by rw [← hyr i h1 h3]; exact round_rest u (by omega)⟩, by simp only; omega⟩ (by simp only; omega) ?_
                simp only [NwO, Nw, t9b_32, hT3, round_32, hW3, encC, bN, lN, lg, junks, ri, rb, Int.natCast_add, Int.natCast_one, NwO, Nw, wk, renJ, renJs, mvH, hgetO, memB, posG, jp, renJB, renJEnts, vwks, vwk1, hwk, bwk, sc, scs, scEnts, lg, List.length_cons, List.length_nil, List.cons_append, List.nil_append, List.take_zero, true_and, and_true, and_self, implies_true, eq_self, Bool.and_self, decide_true, decide_false, Nat.zero_add, Nat.le_refl, reduceCtorEq, Nat.reduceAdd, Nat.reduceLT, Nat.reduceLeDiff, Nat.reduceEqDiff] <;> (and_intros <;> first | rfl | (intro k hk; (rcases k with _ | _ | _ | k <;> first | rfl | omega)))
              | false =>
                obtain ⟨v1, v2, v3, v4⟩ := hy.same
                simp only [Wd.nd, cast2, Int.reduceAdd] at v1 v2 v3 v4
                simp only [t9b_32, hT3, junks, pl9, hlt2, encC, hW3, bN, lN, lg, ri, rb, eng, litSt, srunA_nil, srunA_b, stepR, contB_mk, r0, regC, sop, unw, strip, sev, tg, tset, tput, needs, opNeeds, sBin, ibin, shiftOp, selC, sConv, lg, List.cons_append, List.nil_append, true_and, and_self, or_true, not_false_eq_true, eq_self, ne_eq, Bool.false_eq_true, Int.reduceEq, ti3, ti5]
                refine hX3 _ _ _ (by simp) ?_
                simp only [popF, pl9, ΓT3, on43_3, hT3, csOf, pix, ΓV3, c16, hyl, v1, v2, v3, v4, decV3, cK, onK, cM, decC2, ivn, lix, lof, lln, el0, el1, el2, hd1, cellOf, lstN, lstF, nodupB, ren, rens, encC, hW3, bN, lN, decN2, lg, Cen.eta, Nod.eta, onNat, allN, sigN, decN, encN, etaL3 u, ri, rb, renB, rens, ren, sig, subH, updH, eng, litSt, srunA_nil, srunA_b, stepR, contB_mk, r0, r1, r2, regC, sop, unw, strip, sev, tg, tset, tput, needs, opNeeds, sBin, ibin, shiftOp, gb, gslot, gdst, onth, wants, sPick, popF, exitC, sLoad, sExtract, sField, sCall, cellsAt, hget, hset, hd1, lg, List.length_cons, List.length_nil, List.cons_append, List.nil_append, List.append_nil, List.map_cons, List.map_nil, List.take_succ_cons, List.take_zero, List.take_nil, List.drop_succ_cons, List.drop_zero, List.drop_nil, List.contains_cons, List.contains_nil, List.getElem?_cons_zero, List.getElem?_cons_succ, true_and, and_self, or_true, implies_true, not_false_eq_true, eq_self, ne_eq, Bool.true_eq_false, Bool.false_eq_true, Bool.not_false, Bool.or_false, Bool.and_self, Bool.cond_true, Nat.zero_add, Nat.add_zero, Nat.le_refl, Option.getD_some, reduceCtorEq, ↓reduceIte, Nat.reduceAdd, Nat.reduceSub, Nat.reduceLT, Nat.reduceLeDiff, Nat.reduceBEq, tk27, ta27, tk30, ta30, tf75_0]
                exact hF _ _ _ ⟨trivial, by simp only [Try.f9, rb, retP, sResults, sRes1, resK, retV, vwk, vwk1, hwk, sc, tg, List.length_nil, and_self, eq_self, Nat.le_refl]⟩
      | true =>
        have hil : i < n := by simp at hlt; omega
        obtain ⟨bb, o, rfl, hcell⟩ := hE.1 (by omega)
        obtain ⟨c0, c1⟩ := hcell i hil
        have hby := hE.2 i hil
        have hlt' : ((i : Int) < n) = True := by simp; omega
        have hw : IntKind.i64.wrap ((i : Int) + 1) = i + 1 := wrap1 (by omega) (by omega)
        have r := hr.step (by decide) hT' hS (by omega) (what := e0 i) hby.1
        have hfit : Fit 3 w = True := eq_true (hr.fit (by decide) hT' hS (by omega))
        have hb0 : (0 ≤ e1 i) = True := eq_true hby.1
        have hb1 : (e1 i < 256) = True := eq_true hby.2
        have hk3 : (e1 i).tmod 3 = 0 ∨ (e1 i).tmod 3 = 1 ∨ (e1 i).tmod 3 = 2 := by
          have := tmod_lt hby.1 (show (0 : Int) < 3 by decide)
          omega
        rcases hk3 with q | q | q
        · obtain ⟨z1, z2⟩ := two_tests (by decide) hT' (by omega) hby.1 hr r (show 0 < 3 by decide)
          simp only [Wd.nd] at z1 z2
          have hkk : (IntKind.i64.wrap (e1 i)).tmod 3 = 0 := by rw [wrap_byte hby.1 hby.2]; exact q
          cases z3 : decide ((w.step 3 (e0 i) (e1 i)).x0.en < w.x0.en) with
          | false =>
            simp only [t9_3, h9_3, junks, pl9, ΓT3, ΓV3, onHap3, preHap3, decV3, hU0_3, tU3, lS, eWs, cK, cM, decC2, ivn, lix, lof, lln, el0, el1, el2, hd1, cellOf, lstN, lstF, nodupB, ren, rens, encC, eW, hW3, bN, lN, decN2, lg, Cen.eta, Nod.eta, cast3, onNat, allN, sigN, decN, encN, etaL3 w, hlt', c0, c1, hw, hfit, hb0, hb1, hkk, z1, z3, ri, rb, renB, rens, ren, sig, subH, updH, ↓engE, drawE_mk, eng, litSt, srunA_nil, srunA_b, stepR, contB_mk, r0, r1, r2, regC, sop, unw, strip, sev, tg, tset, tput, needs, opNeeds, sBin, ibin, shiftOp, gb, gslot, gdst, onth, wants, sPick, selC, sLoad, sStore, sExtract, sField, sIndex, sLen, sCall, sBuiltin, sConv, cellsAt, roCells, hget, hset, hd1, vcells, one, splice, drawSt, preL, chkL, stp, nxtB_mk, pref_0, pref_b, allocOp, holes, lg, List.length_cons, List.length_nil, List.cons_append, List.nil_append, List.append_nil, List.map_cons, List.map_nil, List.take_succ_cons, List.take_zero, List.take_nil, List.drop_succ_cons, List.drop_zero, List.drop_nil, List.all_cons, List.all_nil, List.contains_cons, List.contains_nil, List.getElem?_cons_zero, List.getElem?_cons_succ, true_and, and_self, or_true, implies_true, imp_self, not_false_eq_true, eq_self, ne_eq, Bool.true_eq_false, Bool.false_eq_true, Bool.not_false, Bool.and_false, Bool.or_false, Bool.and_self, Bool.cond_true, Bool.cond_false, decide_true, Nat.zero_add, Nat.add_zero, Nat.le_refl, Int.toNat_natCast, Int.toNat_zero, Int.natCast_nonneg, Option.getD_some, Option.isSome_some, reduceCtorEq, Value.oneCell', ↓reduceIte, Nat.reduceAdd, Nat.reduceSub, Nat.reduceLT, Nat.reduceLeDiff, Nat.reduceBEq, Int.reduceLT, Int.reduceLE, Int.reduceEq, ti3, tk5, ta5, ti5, tk30, ts30, ta30, te70, tk71, ta71, te71, tk75, ts75, ta75, tf75_1, tk80, ts80, ta80, tf80_0, tf80_1]
            refine hN (some [0, 1, 2, 3, 14, 5, 6, 7, 15, 9, 16, 11, 17, 13]) (i + 1, w.step 3 (e0 i) (e1 i)) _ _ ⟨by simp only; omega, r⟩ (by simp only; omega) ?_
            simp only [NwO, Nw, t9_3, h9_3, hW3, encC, bN, lN, lg, junks, ri, rb, Int.natCast_add, Int.natCast_one, NwO, Nw, wk, renJ, renJs, mvH, hgetO, memB, posG, jp, renJB, renJEnts, vwks, vwk1, hwk, bwk, sc, scs, scEnts, lg, List.length_cons, List.length_nil, List.cons_append, List.nil_append, List.take_zero, true_and, and_true, and_self, implies_true, eq_self, Bool.and_self, decide_true, decide_false, Nat.zero_add, Nat.le_refl, reduceCtorEq, Nat.reduceAdd, Nat.reduceLT, Nat.reduceLeDiff, Nat.reduceEqDiff] <;> (and_intros <;> first | rfl | (intro k hk; (rcases k with _ | _ | _ | k <;> first | rfl | omega)))
          | true =>
            rw [z3] at z2
            have z4 : decide (e0 i = 2) = true ∨ (decide (e0 i = 2) = false ∧ decide (e0 i = 3) = true) := by
              rcases z2 with z | z | z
              · cases z
              · exact .inl z
              · refine .inr ⟨?_, z⟩
                rw [of_decide_eq_true z]
                rfl
            rcases z4 with z5 | ⟨z5, z6⟩
            · simp only [t9_3, h9_3, junks, pl9, ΓT3, ΓV3, onHap3, preHap3, decV3, hU0_3, tU3, lS, eWs, cK, cM, decC2, ivn, lix, lof, lln, el0, el1, el2, hd1, cellOf, lstN, lstF, nodupB, ren, rens, encC, eW, hW3, bN, lN, decN2, lg, Cen.eta, Nod.eta, cast3, onNat, allN, sigN, decN, encN, etaL3 w, hlt', c0, c1, hw, hfit, hb0, hb1, hkk, z1, z3, z5, ri, rb, renB, rens, ren, sig, subH, updH, ↓engE, drawE_mk, eng, litSt, srunA_nil, srunA_b, stepR, contB_mk, r0, r1, r2, regC, sop, unw, strip, sev, tg, tset, tput, needs, opNeeds, sBin, ibin, shiftOp, gb, gslot, gdst, onth, wants, sPick, selC, sLoad, sStore, sExtract, sField, sIndex, sLen, sCall, sBuiltin, sConv, cellsAt, roCells, hget, hset, hd1, vcells, one, splice, drawSt, preL, chkL, stp, nxtB_mk, pref_0, pref_b, allocOp, holes, lg, List.length_cons, List.length_nil, List.cons_append, List.nil_append, List.append_nil, List.map_cons, List.map_nil, List.take_succ_cons, List.take_zero, List.take_nil, List.drop_succ_cons, List.drop_zero, List.drop_nil, List.all_cons, List.all_nil, List.contains_cons, List.contains_nil, List.getElem?_cons_zero, List.getElem?_cons_succ, true_and, and_self, or_true, implies_true, imp_self, not_false_eq_true, eq_self, ne_eq, Bool.true_eq_false, Bool.false_eq_true, Bool.not_true, Bool.not_false, Bool.and_false, Bool.or_false, Bool.and_self, Bool.cond_true, Bool.cond_false, decide_true, Nat.zero_add, Nat.add_zero, Nat.le_refl, Int.toNat_natCast, Int.toNat_zero, Int.natCast_nonneg, Option.getD_some, Option.isSome_some, reduceCtorEq, Value.oneCell', ↓reduceIte, Nat.reduceAdd, Nat.reduceSub, Nat.reduceLT, Nat.reduceLeDiff, Nat.reduceBEq, Int.reduceLT, Int.reduceLE, Int.reduceEq, ti3, tk5, ta5, ti5, tk30, ts30, ta30, te70, tk71, ta71, te71, tk75, ts75, ta75, tf75_1, tk80, ts80, ta80, tf80_0, tf80_1]
              refine hN (some [0, 1, 2, 3, 14, 5, 6, 7, 15, 9, 16, 11, 17, 13]) (i + 1, w.step 3 (e0 i) (e1 i)) _ _ ⟨by simp only; omega, r⟩ (by simp only; omega) ?_
              simp only [NwO, Nw, t9_3, h9_3, hW3, encC, bN, lN, lg, junks, ri, rb, Int.natCast_add, Int.natCast_one, NwO, Nw, wk, renJ, renJs, mvH, hgetO, memB, posG, jp, renJB, renJEnts, vwks, vwk1, hwk, bwk, sc, scs, scEnts, lg, List.length_cons, List.length_nil, List.cons_append, List.nil_append, List.take_zero, true_and, and_true, and_self, implies_true, eq_self, Bool.and_self, decide_true, decide_false, Nat.zero_add, Nat.le_refl, reduceCtorEq, Nat.reduceAdd, Nat.reduceLT, Nat.reduceLeDiff, Nat.reduceEqDiff] <;> (and_intros <;> first | rfl | (intro k hk; (rcases k with _ | _ | _ | k <;> first | rfl | omega)))
            · simp only [t9_3, h9_3, junks, pl9, ΓT3, ΓV3, onHap3, preHap3, decV3, hU0_3, tU3, lS, eWs, cK, cM, decC2, ivn, lix, lof, lln, el0, el1, el2, hd1, cellOf, lstN, lstF, nodupB, ren, rens, encC, eW, hW3, bN, lN, decN2, lg, Cen.eta, Nod.eta, cast3, onNat, allN, sigN, decN, encN, etaL3 w, hlt', c0, c1, hw, hfit, hb0, hb1, hkk, z1, z3, z5, z6, ri, rb, renB, rens, ren, sig, subH, updH, ↓engE, drawE_mk, eng, litSt, srunA_nil, srunA_b, stepR, contB_mk, r0, r1, r2, regC, sop, unw, strip, sev, tg, tset, tput, needs, opNeeds, sBin, ibin, shiftOp, gb, gslot, gdst, onth, wants, sPick, selC, sLoad, sStore, sExtract, sField, sIndex, sLen, sCall, sBuiltin, sConv, cellsAt, roCells, hget, hset, hd1, vcells, one, splice, drawSt, preL, chkL, stp, nxtB_mk, pref_0, pref_b, allocOp, holes, lg, List.length_cons, List.length_nil, List.cons_append, List.nil_append, List.append_nil, List.map_cons, List.map_nil, List.take_succ_cons, List.take_zero, List.take_nil, List.drop_succ_cons, List.drop_zero, List.drop_nil, List.all_cons, List.all_nil, List.contains_cons, List.contains_nil, List.getElem?_cons_zero, List.getElem?_cons_succ, true_and, and_self, or_true, implies_true, not_false_eq_true, eq_self, ne_eq, Bool.true_eq_false, Bool.false_eq_true, Bool.not_true, Bool.not_false, Bool.or_false, Bool.and_self, Bool.cond_true, Bool.cond_false, decide_true, Nat.zero_add, Nat.add_zero, Nat.le_refl, Int.toNat_natCast, Int.toNat_zero, Int.natCast_nonneg, Option.getD_some, Option.isSome_some, reduceCtorEq, Value.oneCell', ↓reduceIte, Nat.reduceAdd, Nat.reduceSub, Nat.reduceLT, Nat.reduceLeDiff, Nat.reduceBEq, Int.reduceLT, Int.reduceLE, Int.reduceEq, ti3, tk5, ta5, ti5, tk30, ts30, ta30, te70, tk71, ta71, te71, tk75, ts75, ta75, tf75_1, tk80, ts80, ta80, tf80_0, tf80_1]
              refine hN (some [0, 1, 2, 3, 14, 5, 6, 7, 15, 9, 16, 11, 17, 13]) (i + 1, w.step 3 (e0 i) (e1 i)) _ _ ⟨by simp only; omega, r⟩ (by simp only; omega) ?_
              simp only [NwO, Nw, t9_3, h9_3, hW3, encC, bN, lN, lg, junks, ri, rb, Int.natCast_add, Int.natCast_one, NwO, Nw, wk, renJ, renJs, mvH, hgetO, memB, posG, jp, renJB, renJEnts, vwks, vwk1, hwk, bwk, sc, scs, scEnts, lg, List.length_cons, List.length_nil, List.cons_append, List.nil_append, List.take_zero, true_and, and_true, and_self, implies_true, eq_self, Bool.and_self, decide_true, decide_false, Nat.zero_add, Nat.le_refl, reduceCtorEq, Nat.reduceAdd, Nat.reduceLT, Nat.reduceLeDiff, Nat.reduceEqDiff] <;> (and_intros <;> first | rfl | (intro k hk; (rcases k with _ | _ | _ | k <;> first | rfl | omega)))
        · obtain ⟨z1, z2⟩ := two_tests (by decide) hT' (by omega) hby.1 hr r (show 1 < 3 by decide)
          simp only [Wd.nd] at z1 z2
          have hkk : (IntKind.i64.wrap (e1 i)).tmod 3 = 1 := by rw [wrap_byte hby.1 hby.2]; exact q
          cases z3 : decide ((w.step 3 (e0 i) (e1 i)).x1.en < w.x1.en) with
          | false =>
            simp only [t9_3, h9_3, junks, pl9, ΓT3, ΓV3, onHap3, preHap3, decV3, hU0_3, tU3, lS, eWs, cK, cM, decC2, ivn, lix, lof, lln, el0, el1, el2, hd1, cellOf, lstN, lstF, nodupB, ren, rens, encC, eW, hW3, bN, lN, decN2, lg, Cen.eta, Nod.eta, cast3, onNat, allN, sigN, decN, encN, etaL3 w, hlt', c0, c1, hw, hfit, hb0, hb1, hkk, z1, z3, ri, rb, renB, rens, ren, sig, subH, updH, ↓engE, drawE_mk, eng, litSt, srunA_nil, srunA_b, stepR, contB_mk, r0, r1, r2, regC, sop, unw, strip, sev, tg, tset, tput, needs, opNeeds, sBin, ibin, shiftOp, gb, gslot, gdst, onth, wants, sPick, selC, sLoad, sStore, sExtract, sField, sIndex, sLen, sCall, sBuiltin, sConv, cellsAt, roCells, hget, hset, hd1, vcells, one, splice, drawSt, preL, chkL, stp, nxtB_mk, pref_0, pref_b, allocOp, holes, lg, List.length_cons, List.length_nil, List.cons_append, List.nil_append, List.append_nil, List.map_cons, List.map_nil, List.take_succ_cons, List.take_zero, List.take_nil, List.drop_succ_cons, List.drop_zero, List.drop_nil, List.all_cons, List.all_nil, List.contains_cons, List.contains_nil, List.getElem?_cons_zero, List.getElem?_cons_succ, true_and, and_self, or_true, implies_true, imp_self, not_false_eq_true, eq_self, ne_eq, Bool.true_eq_false, Bool.false_eq_true, Bool.not_false, Bool.and_false, Bool.or_false, Bool.and_self, Bool.cond_true, Bool.cond_false, decide_true, Nat.zero_add, Nat.add_zero, Nat.le_refl, Int.toNat_natCast, Int.natCast_nonneg, Option.getD_some, Option.isSome_some, reduceCtorEq, Value.oneCell', ↓reduceIte, Nat.reduceAdd, Nat.reduceSub, Nat.reduceLT, Nat.reduceLeDiff, Nat.reduceBEq, Int.reduceLT, Int.reduceLE, Int.reduceEq, Int.reduceToNat, ti3, tk5, ta5, ti5, tk30, ts30, ta30, te70, tk71, ta71, te71, tk75, ts75, ta75, tf75_1, tk80, ts80, ta80, tf80_0, tf80_1]
            refine hN (some [0, 1, 2, 3, 14, 5, 6, 7, 15, 9, 16, 11, 17, 13]) (i + 1, w.step 3 (e0 i) (e1 i)) _ _ ⟨by simp only; omega, r⟩ (by simp only; omega) ?_
            simp only [NwO, Nw, t9_3, h9_3, hW3, encC, bN, lN, lg, junks, ri, rb, Int.natCast_add, Int.natCast_one, NwO, Nw, wk, renJ, renJs, mvH, hgetO, memB, posG, jp, renJB, renJEnts, vwks, vwk1, hwk, bwk, sc, scs, scEnts, lg, List.length_cons, List.length_nil, List.cons_append, List.nil_append, List.take_zero, true_and, and_true, and_self, implies_true, eq_self, Bool.and_self, decide_true, decide_false, Nat.zero_add, Nat.le_refl, reduceCtorEq, Nat.reduceAdd, Nat.reduceLT, Nat.reduceLeDiff, Nat.reduceEqDiff] <;> (and_intros <;> first | rfl | (intro k hk; (rcases k with _ | _ | _ | k <;> first | rfl | omega)))
          | true =>
            rw [z3] at z2
            have z4 : decide (e0 i = 2) = true ∨ (decide (e0 i = 2) = false ∧ decide (e0 i = 3) = true) := by
              rcases z2 with z | z | z
              · cases z
              · exact .inl z
              · refine .inr ⟨?_, z⟩
                rw [of_decide_eq_true z]
                rfl
            rcases z4 with z5 | ⟨z5, z6⟩
            · simp only [t9_3, h9_3, junks, pl9, ΓT3, ΓV3, onHap3, preHap3, decV3, hU0_3, tU3, lS, eWs, cK, cM, decC2, ivn, lix, lof, lln, el0, el1, el2, hd1, cellOf, lstN, lstF, nodupB, ren, rens, encC, eW, hW3, bN, lN, decN2, lg, Cen.eta, Nod.eta, cast3, onNat, allN, sigN, decN, encN, etaL3 w, hlt', c0, c1, hw, hfit, hb0, hb1, hkk, z1, z3, z5, ri, rb, renB, rens, ren, sig, subH, updH, ↓engE, drawE_mk, eng, litSt, srunA_nil, srunA_b, stepR, contB_mk, r0, r1, r2, regC, sop, unw, strip, sev, tg, tset, tput, needs, opNeeds, sBin, ibin, shiftOp, gb, gslot, gdst, onth, wants, sPick, selC, sLoad, sStore, sExtract, sField, sIndex, sLen, sCall, sBuiltin, sConv, cellsAt, roCells, hget, hset, hd1, vcells, one, splice, drawSt, preL, chkL, stp, nxtB_mk, pref_0, pref_b, allocOp, holes, lg, List.length_cons, List.length_nil, List.cons_append, List.nil_append, List.append_nil, List.map_cons, List.map_nil, List.take_succ_cons, List.take_zero, List.take_nil, List.drop_succ_cons, List.drop_zero, List.drop_nil, List.all_cons, List.all_nil, List.contains_cons, List.contains_nil, List.getElem?_cons_zero, List.getElem?_cons_succ, true_and, and_self, or_true, implies_true, imp_self, not_false_eq_true, eq_self, ne_eq, Bool.true_eq_false, Bool.false_eq_true, Bool.not_true, Bool.not_false, Bool.and_false, Bool.or_false, Bool.and_self, Bool.cond_true, Bool.cond_false, decide_true, Nat.zero_add, Nat.add_zero, Nat.le_refl, Int.toNat_natCast, Int.natCast_nonneg, Option.getD_some, Option.isSome_some, reduceCtorEq, Value.oneCell', ↓reduceIte, Nat.reduceAdd, Nat.reduceSub, Nat.reduceLT, Nat.reduceLeDiff, Nat.reduceBEq, Int.reduceLT, Int.reduceLE, Int.reduceEq, Int.reduceToNat, ti3, tk5, ta5, ti5, tk30, ts30, ta30, te70, tk71, ta71, te71, tk75, ts75, ta75, tf75_1, tk80, ts80, ta80, tf80_0, tf80_1]
              refine hN (some [0, 1, 2, 3, 14, 5, 6, 7, 15, 9, 16, 11, 17, 13]) (i + 1, w.step 3 (e0 i) (e1 i)) _ _ ⟨by simp only; omega, r⟩ (by simp only; omega) ?_
              simp only [NwO, Nw, t9_3, h9_3, hW3, encC, bN, lN, lg, junks, ri, rb, Int.natCast_add, Int.natCast_one, NwO, Nw, wk, renJ, renJs, mvH, hgetO, memB, posG, jp, renJB, renJEnts, vwks, vwk1, hwk, bwk, sc, scs, scEnts, lg, List.length_cons, List.length_nil, List.cons_append, List.nil_append, List.take_zero, true_and, and_true, and_self, implies_true, eq_self, Bool.and_self, decide_true, decide_false, Nat.zero_add, Nat.le_refl, reduceCtorEq, Nat.reduceAdd, Nat.reduceLT, Nat.reduceLeDiff, Nat.reduceEqDiff] <;> (and_intros <;> first | rfl | (intro k hk; (rcases k with _ | _ | _ | k <;> first | rfl | omega)))
            · simp only [t9_3, h9_3, junks, pl9, ΓT3, ΓV3, onHap3, preHap3, decV3, hU0_3, tU3, lS, eWs, cK, cM, decC2, ivn, lix, lof, lln, el0, el1, el2, hd1, cellOf, lstN, lstF, nodupB, ren, rens, encC, eW, hW3, bN, lN, decN2, lg, Cen.eta, Nod.eta, cast3, onNat, allN, sigN, decN, encN, etaL3 w, hlt', c0, c1, hw, hfit, hb0, hb1, hkk, z1, z3, z5, z6, ri, rb, renB, rens, ren, sig, subH, updH, ↓engE, drawE_mk, eng, litSt, srunA_nil, srunA_b, stepR, contB_mk, r0, r1, r2, regC, sop, unw, strip, sev, tg, tset, tput, needs, opNeeds, sBin, ibin, shiftOp, gb, gslot, gdst, onth, wants, sPick, selC, sLoad, sStore, sExtract, sField, sIndex, sLen, sCall, sBuiltin, sConv, cellsAt, roCells, hget, hset, hd1, vcells, one, splice, drawSt, preL, chkL, stp, nxtB_mk, pref_0, pref_b, allocOp, holes, lg, List.length_cons, List.length_nil, List.cons_append, List.nil_append, List.append_nil, List.map_cons, List.map_nil, List.take_succ_cons, List.take_zero, List.take_nil, List.drop_succ_cons, List.drop_zero, List.drop_nil, List.all_cons, List.all_nil, List.contains_cons, List.contains_nil, List.getElem?_cons_zero, List.getElem?_cons_succ, true_and, and_self, or_true, implies_true, not_false_eq_true, eq_self, ne_eq, Bool.true_eq_false, Bool.false_eq_true, Bool.not_true, Bool.not_false, Bool.or_false, Bool.and_self, Bool.cond_true, Bool.cond_false, decide_true, Nat.zero_add, Nat.add_zero, Nat.le_refl, Int.toNat_natCast, Int.natCast_nonneg, Option.getD_some, Option.isSome_some, reduceCtorEq, Value.oneCell', ↓reduceIte, Nat.reduceAdd, Nat.reduceSub, Nat.reduceLT, Nat.reduceLeDiff, Nat.reduceBEq, Int.reduceLT, Int.reduceLE, Int.reduceEq, Int.reduceToNat, ti3, tk5, ta5, ti5, tk30, ts30, ta30, te70, tk71, ta71, te71, tk75, ts75, ta75, tf75_1, tk80, ts80, ta80, tf80_0, tf80_1]
              refine hN (some [0, 1, 2, 3, 14, 5, 6, 7, 15, 9, 16, 11, 17, 13]) (i + 1, w.step 3 (e0 i) (e1 i)) _ _ ⟨by simp only; omega, r⟩ (by simp only; omega) ?_
              simp only [NwO, Nw, t9_3, h9_3, hW3, encC, bN, lN, lg, junks, ri, rb, Int.natCast_add, Int.natCast_one, NwO, Nw, wk, renJ, renJs, mvH, hgetO, memB, posG, jp, renJB, renJEnts, vwks, vwk1, hwk, bwk, sc, scs, scEnts, lg, List.length_cons, List.length_nil, List.cons_append, List.nil_append, List.take_zero, true_and, and_true, and_self, implies_true, eq_self, Bool.and_self, decide_true, decide_false, Nat.zero_add, Nat.le_refl, reduceCtorEq, Nat.reduceAdd, Nat.reduceLT, Nat.reduceLeDiff, Nat.reduceEqDiff] <;> (and_intros <;> first | rfl | (intro k hk; (rcases k with _ | _ | _ | k <;> first | rfl | omega)))
        · obtain ⟨z1, z2⟩ := two_tests (by decide) hT' (by omega) hby.1 hr r (show 2 < 3 by decide)
          simp only [Wd.nd] at z1 z2
          have hkk : (IntKind.i64.wrap (e1 i)).tmod 3 = 2 := by rw [wrap_byte hby.1 hby.2]; exact q
          cases z3 : decide ((w.step 3 (e0 i) (e1 i)).x2.en < w.x2.en) with
          | false =>
            simp only [t9_3, h9_3, junks, pl9, ΓT3, ΓV3, onHap3, preHap3, decV3, hU0_3, tU3, lS, eWs, cK, cM, decC2, ivn, lix, lof, lln, el0, el1, el2, hd1, cellOf, lstN, lstF, nodupB, ren, rens, encC, eW, hW3, bN, lN, decN2, lg, Cen.eta, Nod.eta, cast3, onNat, allN, sigN, decN, encN, etaL3 w, hlt', c0, c1, hw, hfit, hb0, hb1, hkk, z1, z3, ri, rb, renB, rens, ren, sig, subH, updH, ↓engE, drawE_mk, eng, litSt, srunA_nil, srunA_b, stepR, contB_mk, r0, r1, r2, regC, sop, unw, strip, sev, tg, tset, tput, needs, opNeeds, sBin, ibin, shiftOp, gb, gslot, gdst, onth, wants, sPick, selC, sLoad, sStore, sExtract, sField, sIndex, sLen, sCall, sBuiltin, sConv, cellsAt, roCells, hget, hset, hd1, vcells, one, splice, drawSt, preL, chkL, stp, nxtB_mk, pref_0, pref_b, allocOp, holes, lg, List.length_cons, List.length_nil, List.cons_append, List.nil_append, List.append_nil, List.map_cons, List.map_nil, List.take_succ_cons, List.take_zero, List.take_nil, List.drop_succ_cons, List.drop_zero, List.drop_nil, List.all_cons, List.all_nil, List.contains_cons, List.contains_nil, List.getElem?_cons_zero, List.getElem?_cons_succ, true_and, and_self, or_true, implies_true, imp_self, not_false_eq_true, eq_self, ne_eq, Bool.true_eq_false, Bool.false_eq_true, Bool.not_false, Bool.and_false, Bool.or_false, Bool.and_self, Bool.cond_true, Bool.cond_false, decide_true, Nat.zero_add, Nat.add_zero, Nat.le_refl, Int.toNat_natCast, Int.natCast_nonneg, Option.getD_some, Option.isSome_some, reduceCtorEq, Value.oneCell', ↓reduceIte, Nat.reduceAdd, Nat.reduceSub, Nat.reduceLT, Nat.reduceLeDiff, Nat.reduceBEq, Int.reduceLT, Int.reduceLE, Int.reduceEq, Int.reduceToNat, ti3, tk5, ta5, ti5, tk30, ts30, ta30, te70, tk71, ta71, te71, tk75, ts75, ta75, tf75_1, tk80, ts80, ta80, tf80_0, tf80_1]
            refine hN (some [0, 1, 2, 3, 14, 5, 6, 7, 15, 9, 16, 11, 17, 13]) (i + 1, w.step 3 (e0 i) (e1 i)) _ _ ⟨by simp only; omega, r⟩ (by simp only; omega) ?_
            simp only [NwO, Nw, t9_3, h9_3, hW3, encC, bN, lN, lg, junks, ri, rb, Int.natCast_add, Int.natCast_one, NwO, Nw, wk, renJ, renJs, mvH, hgetO, memB, posG, jp, renJB, renJEnts, vwks, vwk1, hwk, bwk, sc, scs, scEnts, lg, List.length_cons, List.length_nil, List.cons_append, List.nil_append, List.take_zero, true_and, and_true, and_self, implies_true, eq_self, Bool.and_self, decide_true, decide_false, Nat.zero_add, Nat.le_refl, reduceCtorEq, Nat.reduceAdd, Nat.reduceLT, Nat.reduceLeDiff, Nat.reduceEqDiff] <;> (and_intros <;> first | rfl | (intro k hk; (rcases k with _ | _ | _ | k <;> first | rfl | omega)))
          | true =>
            rw [z3] at z2
            have z4 : decide (e0 i = 2) = true ∨ (decide (e0 i = 2) = false ∧ decide (e0 i = 3) = true) := by
              rcases z2 with z | z | z
              · cases z
              · exact .inl z
              · refine .inr ⟨?_, z⟩
                rw [of_decide_eq_true z]
                rfl
            rcases z4 with z5 | ⟨z5, z6⟩
            · simp only [t9_3, h9_3, junks, pl9, ΓT3, ΓV3, onHap3, preHap3, decV3, hU0_3, tU3, lS, eWs, cK, cM, decC2, ivn, lix, lof, lln, el0, el1, el2, hd1, cellOf, lstN, lstF, nodupB, ren, rens, encC, eW, hW3, bN, lN, decN2, lg, Cen.eta, Nod.eta, cast3, onNat, allN, sigN, decN, encN, etaL3 w, hlt', c0, c1, hw, hfit, hb0, hb1, hkk, z1, z3, z5, ri, rb, renB, rens, ren, sig, subH, updH, ↓engE, drawE_mk, eng, litSt, srunA_nil, srunA_b, stepR, contB_mk, r0, r1, r2, regC, sop, unw, strip, sev, tg, tset, tput, needs, opNeeds, sBin, ibin, shiftOp, gb, gslot, gdst, onth, wants, sPick, selC, sLoad, sStore, sExtract, sField, sIndex, sLen, sCall, sBuiltin, sConv, cellsAt, roCells, hget, hset, hd1, vcells, one, splice, drawSt, preL, chkL, stp, nxtB_mk, pref_0, pref_b, allocOp, holes, lg, List.length_cons, List.length_nil, List.cons_append, List.nil_append, List.append_nil, List.map_cons, List.map_nil, List.take_succ_cons, List.take_zero, List.take_nil, List.drop_succ_cons, List.drop_zero, List.drop_nil, List.all_cons, List.all_nil, List.contains_cons, List.contains_nil, List.getElem?_cons_zero, List.getElem?_cons_succ, true_and, and_self, or_true, implies_true, imp_self, not_false_eq_true, eq_self, ne_eq, Bool.true_eq_false, Bool.false_eq_true, Bool.not_true, Bool.not_false, Bool.and_false, Bool.or_false, Bool.and_self, Bool.cond_true, Bool.cond_false, decide_true, Nat.zero_add, Nat.add_zero, Nat.le_refl, Int.toNat_natCast, Int.natCast_nonneg, Option.getD_some, Option.isSome_some, reduceCtorEq, Value.oneCell', ↓reduceIte, Nat.reduceAdd, Nat.reduceSub, Nat.reduceLT, Nat.reduceLeDiff, Nat.reduceBEq, Int.reduceLT, Int.reduceLE, Int.reduceEq, Int.reduceToNat, ti3, tk5, ta5, ti5, tk30, ts30, ta30, te70, tk71, ta71, te71, tk75, ts75, ta75, tf75_1, tk80, ts80, ta80, tf80_0, tf80_1]
              refine hN (some [0, 1, 2, 3, 14, 5, 6, 7, 15, 9, 16, 11, 17, 13]) (i + 1, w.step 3 (e0 i) (e1 i)) _ _ ⟨by simp only; omega, r⟩ (by simp only; omega) ?_
              simp only [NwO, Nw, t9_3, h9_3, hW3, encC, bN, lN, lg, junks, ri, rb, Int.natCast_add, Int.natCast_one, NwO, Nw, wk, renJ, renJs, mvH, hgetO, memB, posG, jp, renJB, renJEnts, vwks, vwk1, hwk, bwk, sc, scs, scEnts, lg, List.length_cons, List.length_nil, List.cons_append, List.nil_append, List.take_zero, true_and, and_true, and_self, implies_true, eq_self, Bool.and_self, decide_true, decide_false, Nat.zero_add, Nat.le_refl, reduceCtorEq, Nat.reduceAdd, Nat.reduceLT, Nat.reduceLeDiff, Nat.reduceEqDiff] <;> (and_intros <;> first | rfl | (intro k hk; (rcases k with _ | _ | _ | k <;> first | rfl | omega)))
            · simp only [t9_3, h9_3, junks, pl9, ΓT3, ΓV3, onHap3, preHap3, decV3, hU0_3, tU3, lS, eWs, cK, cM, decC2, ivn, lix, lof, lln, el0, el1, el2, hd1, cellOf, lstN, lstF, nodupB, ren, rens, encC, eW, hW3, bN, lN, decN2, lg, Cen.eta, Nod.eta, cast3, onNat, allN, sigN, decN, encN, etaL3 w, hlt', c0, c1, hw, hfit, hb0, hb1, hkk, z1, z3, z5, z6, ri, rb, renB, rens, ren, sig, subH, updH, ↓engE, drawE_mk, eng, litSt, srunA_nil, srunA_b, stepR, contB_mk, r0, r1, r2, regC, sop, unw, strip, sev, tg, tset, tput, needs, opNeeds, sBin, ibin, shiftOp, gb, gslot, gdst, onth, wants, sPick, selC, sLoad, sStore, sExtract, sField, sIndex, sLen, sCall, sBuiltin, sConv, cellsAt, roCells, hget, hset, hd1, vcells, one, splice, drawSt, preL, chkL, stp, nxtB_mk, pref_0, pref_b, allocOp, holes, lg, List.length_cons, List.length_nil, List.cons_append, List.nil_append, List.append_nil, List.map_cons, List.map_nil, List.take_succ_cons, List.take_zero, List.take_nil, List.drop_succ_cons, List.drop_zero, List.drop_nil, List.all_cons, List.all_nil, List.contains_cons, List.contains_nil, List.getElem?_cons_zero, List.getElem?_cons_succ, true_and, and_self, or_true, implies_true, not_false_eq_true, eq_self, ne_eq, Bool.true_eq_false, Bool.false_eq_true, Bool.not_true, Bool.not_false, Bool.or_false, Bool.and_self, Bool.cond_true, Bool.cond_false, decide_true, Nat.zero_add, Nat.add_zero, Nat.le_refl, Int.toNat_natCast, Int.natCast_nonneg, Option.getD_some, Option.isSome_some, reduceCtorEq, Value.oneCell', ↓reduceIte, Nat.reduceAdd, Nat.reduceSub, Nat.reduceLT, Nat.reduceLeDiff, Nat.reduceBEq, Int.reduceLT, Int.reduceLE, Int.reduceEq, Int.reduceToNat, ti3, tk5, ta5, ti5, tk30, ts30, ta30, te70, tk71, ta71, te71, tk75, ts75, ta75, tf75_1, tk80, ts80, ta80, tf80_0, tf80_1]
              refine hN (some [0, 1, 2, 3, 14, 5, 6, 7, 15, 9, 16, 11, 17, 13]) (i + 1, w.step 3 (e0 i) (e1 i)) _ _ ⟨by simp only; omega, r⟩ (by simp only; omega) ?_
              simp only [NwO, Nw, t9_3, h9_3, hW3, encC, bN, lN, lg, junks, ri, rb, Int.natCast_add, Int.natCast_one, NwO, Nw, wk, renJ, renJs, mvH, hgetO, memB, posG, jp, renJB, renJEnts, vwks, vwk1, hwk, bwk, sc, scs, scEnts, lg, List.length_cons, List.length_nil, List.cons_append, List.nil_append, List.take_zero, true_and, and_true, and_self, implies_true, eq_self, Bool.and_self, decide_true, decide_false, Nat.zero_add, Nat.le_refl, reduceCtorEq, Nat.reduceAdd, Nat.reduceLT, Nat.reduceLeDiff, Nat.reduceEqDiff] <;> (and_intros <;> first | rfl | (intro k hk; (rcases k with _ | _ | _ | k <;> first | rfl | omega)))
end Go.Proofs.Ytmnpnnegnlhemaa.Eng
namespace Go.Proofs.Ytmnpnnegnlhemaa.Eng
open Go

theorem ok9 (E : Addr → Option Value) (a b c nd : Int) (aa : Option Addr) (n cap : Nat) (e0 e1 : Nat → Int) (hE : Evts E aa n e0 e1) (ha : 0 ≤ a ∧ a < 256) (hb : 0 ≤ b ∧ b < 256) (hc : 0 ≤ c ∧ c < 256) (hnd : 0 ≤ nd ∧ nd < 256) :
    Ok Try.prog E 9 [.agg [.raw (.int .u8 a), .raw (.int .u8 b), .raw (.int .u8 c)], .raw (.slice aa n cap), .raw (.int .u8 nd)] [] (rb true) [] := by
  rcases three ha with h | h | h
  · exact ok9_1 E a b c nd aa n cap e0 e1 hE h hb hc hnd
  · exact ok9_2 E a b c nd aa n cap e0 e1 hE h hb hc hnd
  · exact ok9_3 E a b c nd aa n cap e0 e1 hE h hb hc hnd
end Go.Proofs.Ytmnpnnegnlhemaa.Eng
namespace Go.Proofs.Ytmnpnnegnlhemaa.Eng
open Go Go.ChangeShapes Go.WideShapes Go.ChangeAt Go.RowKit

theorem own9 : ownKnob Try.prog.godebug = none := by kernel_rfl
theorem laidOut9 : laidOutB Try.prog = true := by kernel_rfl

set_option maxRecDepth 100000 in
theorem opened9 {W : World} {base : Nat} {H : Type} {enc : TypeId × Value → H} {args : Array Value} {ds : List (DataW H)} {p : List MemPlace}
    (hval : ∀ (j : Nat) t v, Try.f9.params[j]? = some t → args[j]? = some v → Value.okWide Try.prog W .any base t v)
    (hA : DataW.TrodAll enc Try.prog W 0 (fun _ => true) true Try.f9.params.toList args.toList ds p) :
    ∃ (svs : List SV) (H' : List AB), RL R0 svs args.toList ∧ Ok Try.prog W.cell? 9 svs [] (.raw (.bool true)) H' := by
  rw [Try.params9] at hA hval
  obtain ⟨v0, vs0, d0, ds0, p0, q0, hargs, rfl, rfl, h0, r0⟩ := trodAll_cons hA
  obtain ⟨v1, vs1, d1, ds1, p1, q1, rfl, rfl, rfl, h1, r1⟩ := trodAll_cons r0
  obtain ⟨v2, vs2, d2, ds2, p2, q2, rfl, rfl, rfl, h2, r2⟩ := trodAll_cons r1
  obtain ⟨rfl, rfl, rfl⟩ := trodAll_nil r2
  obtain rfl : args = #[v0, v1, v2] := by cases args; simp_all
  clear hargs
  obtain ⟨cs, rfl, f⟩ := open_agg (n := 4) (ks := [.u8, .u8, .u8]) (by kernel_rfl) (by kernel_rfl) (hval 0 69 v0 rfl rfl) h0
  obtain ⟨x, l1, e1, w1, f⟩ := f.cons
  obtain ⟨y, l2, rfl, w2, f⟩ := f.cons
  obtain ⟨z, l3, rfl, w3, f⟩ := f.cons
  obtain rfl := f.nil
  obtain ⟨aa, n, cap, e0, e1', rfl, hev⟩ := evts_open h1 (okWide_slice Try.underlying70 (hval 1 70 v1 rfl rfl))
  obtain ⟨k, rfl, _, _, wk⟩ := open_int Try.underlying5 (hval 2 5 v2 rfl rfl) h2
  exact ⟨[.agg [.raw (.int .u8 x), .raw (.int .u8 y), .raw (.int .u8 z)], .raw (.slice aa n cap), .raw (.int .u8 k)], [], RL_two (R_agg0 e1) (RL_two (R_raw0 _) (RL_one (R_raw0 _))), ok9 _ x y z k aa n cap e0 e1' hev (u8_wf w1) (u8_wf w2) (u8_wf w3) (u8_wf wk)⟩

set_option maxRecDepth 100000 in
theorem lifted9 (os : Os) (started : os.Started) (H : Type) (enc : TypeId × Value → H) :
    ReturnsInHanded {} Try.checked os 9 .any (Rows.commandTwiceSpec.pre6 enc Try.prog Try.f9 Rows.commandTwiceRow.domain false) (Rows.commandTwiceSpec.post enc Try.prog Try.f9 false true false false) := by
  refine returnsInHanded_of_change_sized (C := Try.checked) own9 started (by kernel_rfl) Try.func9
    (ChangeSpec.witness6 (enc := enc) (C := Try.checked) false ⟨#[], #[.agg #[.int .u8 0, .int .u8 0, .int .u8 0], .slice none 0 0, .int .u8 0], []⟩ 8 (by kernel_rfl) (by kernel_rfl) (by kernel_rfl) (by kernel_rfl)) ?_
  intro W base args ds gs before hval hW hcnd0 hsz0 _
  have hW' := hW
  have hlt : ∀ x ∈ before, x.block < W.heap.size := fun x hx => hW.lt x hx
  obtain ⟨p, q, hA, hV, rfl, hfz, hnd⟩ := hW
  obtain ⟨svs, H', hr, hok⟩ := opened9 hval hA
  have hA0 : DataW.TrodAll enc Try.prog W 0 (fun _ => true) true Try.f9.params.toList args.toList ds p := hA
  obtain ⟨rfl, rfl⟩ := trodVars_none hV
  refine (calls_of_ok hr hok).mono fun e W' ⟨he, bel⟩ => ?_
  subst he
  have hback := trodAll_below laidOut9 bel (by
    intro t ht
    rw [Try.params9] at ht
    revert t
    simp only [List.forall_mem_cons, List.not_mem_nil, false_imp_iff, implies_true, and_true]
    exact ⟨⟨by kernel_rfl, of_decide_eq_true (by kernel_rfl)⟩, ⟨by kernel_rfl, of_decide_eq_true (by kernel_rfl)⟩, ⟨by kernel_rfl, of_decide_eq_true (by kernel_rfl)⟩⟩) hA0 (fun x hx => hlt x (by simp [hx]))
  rw [Try.params9] at hA0
  obtain ⟨_, _, d0, ds0, _, _, _, rfl, _, _, r0⟩ := trodAll_cons hA0
  obtain ⟨_, _, d1, ds1, _, _, _, rfl, _, _, r1⟩ := trodAll_cons r0
  obtain ⟨_, _, d2, ds2, _, _, _, rfl, _, _, r2⟩ := trodAll_cons r1
  obtain ⟨_, rfl, _⟩ := trodAll_nil r2
  exact ⟨_, rfl, _, [], _, [], p, [], hW', trodAll_mk1 (shut_bool Try.underlying4 _), hback, rfl, bel.frame _, fun h => by cases h⟩

theorem commandTwice_over : Rows.commandTwiceRow.holds Try.pinned (OpenSpec.ofChange Rows.commandTwiceSpec) :=
  OpenClaim.holds_of_wide 9 Try.f9 rfl rfl rfl rfl rfl rfl rfl ⟨rfl, rfl, rfl, rfl, rfl⟩ rfl rfl rfl rfl rfl (by kernel_rfl) Try.func9 (by kernel_rfl)
    (of_decide_eq_true (by kernel_rfl)) (by unfold Func.isWrapper; first | (rw [if_pos (by decide +kernel)]; kernel_rfl) | (rw [if_neg (by decide +kernel)]; exact ⟨rfl, rfl⟩))
    (fun os started H enc _ => lifted9 os started H enc)
end Go.Proofs.Ytmnpnnegnlhemaa.Eng
namespace Go.Proofs.Ytmnpnnegnlhemaa
/-- The given statement. -/
theorem commandTwice_holds : Rows.CommandTwiceSaid := Eng.commandTwice_over
#print axioms commandTwice_holds
end Go.Proofs.Ytmnpnnegnlhemaa
