/- The law on centres: the walk. -/
import Derived.Test.YtmnpnnegnlhemaaCq
import Derived.Test.YtmnpnnegnlhemaaCl
import Derived.Test.YtmnpnnegnlhemaaCr
namespace Go.Proofs.Ytmnpnnegnlhemaa.Eng
open Go

theorem RC.eta (c : RC) : (⟨c.nodes, c.term, c.slow, c.clock, c.wanted, c.g0, c.g1, c.g2, c.g3, c.g4, c.g5, c.g6, c.g7, c.g8, c.lease, c.number, c.fr⟩ : RC) = c := rfl

def ΓZ : Con := fun f args H => match f with
  | .func 30 => match args with
    | [.agg l, .raw (.int .i64 k)] => onR (fun c => .tup [.agg (eRL (c.want k)), .raw (.int .i64 (c.wantE k))]) l H
    | _ => no
  | .func 32 => match args with
    | [.agg l, .agg [.raw (.int .i64 k), .raw (.int .i64 n), .raw (.int .i64 m)]] => onR (fun c => Ans32 c k n m) l H
    | _ => no
  | .func 34 => match args with
    | [.agg l] => onR (fun c => .agg (eRL c.brk)) l H
    | _ => no
  | .func 36 => match args with
    | [.agg l] => onR (fun c => .agg (eRL c.tick)) l H
    | _ => no
  | .func 38 => match args with
    | [.agg l] => onR (fun c => .tup [.raw (.int .i64 c.lease), .raw (.int .i64 c.since)]) l H
    | _ => no
  | f => ΓL f args H
theorem ΓZ_sound (E : Addr → Option Value) : Con.Sound Try.prog E ΓZ := by
  intro f args H h
  unfold ΓZ at h ⊢
  split at h
  · split at h
    · rename_i l k
      exact onR_sound (args := [ri k]) (fun c => ok30 E c k) (fun _ => rfl) rfl (fun _ _ => rfl) h
    · exact h.elim
  · split at h
    · rename_i l k n m
      exact onR_sound (args := [word k n m]) (fun c => ok32 E c k n m) (fun _ => rfl) rfl (fun _ _ => rfl) h
    · exact h.elim
  · split at h
    · exact onR_sound (args := []) (fun c => ok34 E c) (fun _ => rfl) rfl (fun _ _ => rfl) h
    · exact h.elim
  · split at h
    · exact onR_sound (args := []) (fun c => ok36 E c) (fun _ => rfl) rfl (fun _ _ => rfl) h
    · exact h.elim
  · split at h
    · exact onR_sound (args := []) (fun c => ok38 E c) (fun _ => rfl) rfl (fun _ _ => rfl) h
    · exact h.elim
  · exact ΓL_sound E f args H h

theorem Cen.says_eq (c : Cen) (k n m : Int) : c.says k n m = .agg [.raw (.int .i64 (sel0 (c.reply k n m) 2)), .raw (.int .i64 (sel0 (c.reply k n m) n)), .raw (.int .i64 (sel0 (c.reply k n m) m))] := by
  unfold Cen.says word sel0
  cases c.reply k n m <;> rfl

/-- A centre of the program beside one of the reference. -/
structure CR (c : Cen) (w : RC) : Prop where
  now : c.now = w.clock
  lease : c.node = w.lease
  since : c.since = w.since
  fr : w.lease ≠ 0 → c.since = w.fr
  number : w.lease ≠ 0 → c.number = w.number
  wait : c.wait = wt w.term w.slow
  wanted : c.wanted = w.wanted
  nodes : (c.n : Int) = w.nodes + 1
  lo : 1 ≤ w.nodes
  hi : w.nodes ≤ 8
  gr : ∀ k : Nat, 1 ≤ k → k ≤ 8 → c.gr k = w.at k

theorem RC.since_eq (w : RC) : w.since = if w.lease = 0 then 0 else w.fr := by
  unfold RC.since RC.free
  by_cases h : w.lease = 0 <;> simp [h]

theorem CR.inW {c : Cen} {w : RC} (h : CR c w) (k : Int) : (decide (0 ≤ k) && decide (k ≤ IntKind.i64.wrap (c.n - 1))) = w.inW k := by
  have h1 := h.nodes
  have h2 := h.lo
  have h3 := h.hi
  have e : IntKind.i64.wrap ((c.n : Int) - 1) = w.nodes := by rw [w64 (by omega) (by omega)]; omega
  unfold RC.inW
  rw [e]

theorem CR.wantE {c : Cen} {w : RC} (h : CR c w) (k : Int) : c.wantE k = w.wantE k := by
  unfold Cen.wantE RC.wantE
  rw [h.inW k]
  cases w.inW k <;> rfl

theorem CR.want {c : Cen} {w : RC} (h : CR c w) (k : Int) : CR (c.want k) (w.want k) := by
  unfold Cen.want RC.want
  rw [h.inW k]
  cases w.inW k
  · exact h
  · exact ⟨h.now, h.lease, h.since, h.fr, h.number, h.wait, rfl, h.nodes, h.lo, h.hi, h.gr⟩

theorem CR.brk {c : Cen} {w : RC} (h : CR c w) : CR c.brk w.brk :=
  ⟨h.now, rfl, by rw [RC.since_eq]; exact h.now, fun _ => h.now, fun _ => rfl, h.wait, h.wanted, h.nodes, h.lo, h.hi, h.gr⟩

theorem CR.tick {c : Cen} {w : RC} (h : CR c w) : CR c.tick w.tick := by
  have e : c.out = w.out := by
    unfold Cen.out RC.out
    rw [h.lease, h.now, h.wait]
    by_cases q : w.lease = 0
    · simp [q]
    · rw [h.fr q]
  unfold Cen.tick RC.tick
  rw [e]
  have hn : c.tk.now = IntKind.i64.wrap (w.clock + 1) := by simp only [Cen.tk, h.now]
  cases w.out
  · exact ⟨hn, h.lease, by rw [RC.since_eq]; have := h.since; rw [RC.since_eq] at this; exact this, h.fr, h.number, h.wait, h.wanted, h.nodes, h.lo, h.hi, h.gr⟩
  · exact ⟨hn, rfl, by rw [RC.since_eq]; rfl, fun q => absurd rfl q, fun q => absurd rfl q, h.wait, h.wanted, h.nodes, h.lo, h.hi, h.gr⟩

theorem eight {n : Nat} (h : n ≤ 8) : n = 0 ∨ n = 1 ∨ n = 2 ∨ n = 3 ∨ n = 4 ∨ n = 5 ∨ n = 6 ∨ n = 7 ∨ n = 8 := by omega

theorem RC.at_put (w : RC) {n k : Nat} (hn : n ≤ 8) (hk : k ≤ 8) (v : Int) : (w.put n v).at k = if k = n then v else w.at k := by
  rcases eight hn with rfl | rfl | rfl | rfl | rfl | rfl | rfl | rfl | rfl <;> rcases eight hk with rfl | rfl | rfl | rfl | rfl | rfl | rfl | rfl | rfl <;> rfl
theorem RC.put_at (w : RC) (n : Nat) : w.put n (w.at n) = w := by
  unfold RC.put RC.at
  split <;> rfl
theorem RC.put_rest (w : RC) (n : Nat) (v : Int) : (w.put n v).nodes = w.nodes ∧ (w.put n v).term = w.term ∧ (w.put n v).slow = w.slow ∧ (w.put n v).clock = w.clock ∧ (w.put n v).wanted = w.wanted ∧ (w.put n v).lease = w.lease ∧ (w.put n v).number = w.number ∧ (w.put n v).fr = w.fr := by
  unfold RC.put
  split <;> exact ⟨rfl, rfl, rfl, rfl, rfl, rfl, rfl, rfl⟩

theorem CR.up {c : Cen} {w : RC} (h : CR c w) {n : Int} (h1 : 1 ≤ n) (h8 : n ≤ 8) (m v : Int) (hv : v = max (w.at n.toNat) m) : CR { c with gr := upd c.gr n.toNat v } (w.up n m) := by
  obtain ⟨e1, e2, e3, e4, e5, e6, e7, e8⟩ := w.put_rest n.toNat (max (w.at n.toNat) m)
  unfold RC.up
  refine ⟨by rw [e4]; exact h.now, by rw [e6]; exact h.lease, by rw [RC.since_eq, e6, e8, ← RC.since_eq]; exact h.since, by rw [e6, e8]; exact h.fr, by rw [e6, e7]; exact h.number, by rw [e2, e3]; exact h.wait, by rw [e5]; exact h.wanted, by rw [e1]; exact h.nodes, by rw [e1]; exact h.lo, by rw [e1]; exact h.hi, fun k k1 k8 => ?_⟩
  rw [RC.at_put w (by omega) k8]
  simp only [upd]
  split
  · exact hv
  · exact h.gr k k1 k8

theorem CR.low {c : Cen} {w : RC} (h : CR c w) {k n m : Int} (hv : valid k n m = true) : 1 ≤ n ∧ n ≤ 8 ∧ c.gr n.toNat = w.at n.toNat ∧ decide ((c.n : Int) ≤ n) = decide (w.nodes < n) := by
  have hb : 1 ≤ n ∧ n ≤ 8 := by simp [valid] at hv; omega
  refine ⟨hb.1, hb.2, h.gr _ (by omega) (by omega), ?_⟩
  have := h.nodes
  rw [Bool.eq_iff_iff]
  simp only [decide_eq_true_eq]
  omega

theorem CR.got {c : Cen} {w : RC} (h : CR c w) {k n m : Int} (hv : valid k n m = true) : c.got n m = w.got n m := by
  obtain ⟨_, _, e, _⟩ := h.low hv
  unfold Cen.got Cen.gives RC.got RC.old
  rw [e, h.wanted, h.lease, Bool.and_assoc]

theorem CR.reply {c : Cen} {w : RC} (h : CR c w) (k n m : Int) : c.reply k n m = w.reply k n m := by
  unfold Cen.reply RC.reply
  cases hv : valid k n m with
  | false => rfl
  | true =>
    obtain ⟨_, _, _, e⟩ := h.low hv
    rw [e, h.got hv]
    cases decide (w.nodes < n) <;> cases decide (k = 1) <;> cases w.got n m <;> rfl

theorem CR.err {c : Cen} {w : RC} (h : CR c w) (k n m : Int) : c.err k n m = w.err k n m := by
  unfold Cen.err RC.err
  cases hv : valid k n m with
  | false => rfl
  | true =>
    obtain ⟨_, _, _, e⟩ := h.low hv
    simp only [e]
    cases decide (w.nodes < n) <;> rfl

theorem CR.leased {c : Cen} {w : RC} (h : CR c w) {n m : Int} (hn : n ≠ 0) (hb : 1 ≤ n ∧ n ≤ 8) (v : Int) (hv : v = max (w.at n.toNat) m) : CR { c with gr := upd c.gr n.toNat v, node := n, number := m, since := c.now } { w.up n m with lease := n, number := m, fr := w.clock } := by
  have u := h.up hb.1 hb.2 m v hv
  exact ⟨u.now, rfl, by rw [RC.since_eq]; show c.now = if n = 0 then 0 else w.clock; rw [if_neg hn]; exact h.now, fun _ => h.now, fun _ => rfl, u.wait, u.wanted, u.nodes, u.lo, u.hi, u.gr⟩

theorem CR.freed {c : Cen} {w : RC} (h : CR c w) : CR { c with node := 0, number := 0, since := 0 } { w with lease := 0 } :=
  ⟨h.now, rfl, by rw [RC.since_eq]; rfl, fun q => absurd rfl q, fun q => absurd rfl q, h.wait, h.wanted, h.nodes, h.lo, h.hi, h.gr⟩

theorem CR.hear {c : Cen} {w : RC} (h : CR c w) (k n m : Int) : CR (c.hear k n m) (w.hear k n m) := by
  unfold Cen.hear RC.hear
  cases hv : valid k n m with
  | false => exact h
  | true =>
    obtain ⟨b1, b8, eg, e⟩ := h.low hv
    simp only [if_true, e]
    cases decide (w.nodes < n) with
    | true => exact h
    | false =>
      simp only [Bool.false_eq_true, if_false]
      cases decide (k = 1) with
      | true =>
        simp only [if_true]
        unfold Cen.ask RC.hear1
        have hg := h.got hv
        cases ho : decide (m ≤ c.gr n.toNat) with
        | true =>
          have g0 : w.got n m = false := by rw [← hg]; unfold Cen.got; rw [ho]; rfl
          rw [g0]
          have hm : max (w.at n.toNat) m = w.at n.toNat := by rw [eg] at ho; simp at ho; omega
          simp only [if_true]
          unfold RC.up
          rw [hm, RC.put_at]
          exact h
        | false =>
          simp only [Bool.false_eq_true, if_false]
          have hm : m = max (w.at n.toNat) m := by rw [eg] at ho; simp at ho; omega
          have g1 : c.gives n = w.got n m := by rw [← hg]; unfold Cen.got; rw [ho]; rfl
          rw [g1]
          cases w.got n m with
          | true => exact h.leased (by omega) ⟨b1, b8⟩ m hm
          | false => exact h.up b1 b8 m m hm
      | false =>
        simp only [Bool.false_eq_true, if_false]
        cases decide (k = 3) with
        | false => exact h
        | true =>
          simp only [if_true]
          unfold Cen.back RC.hear3
          have hd : c.drops n m = w.drops n m := by
            unfold Cen.drops RC.drops
            rw [h.lease]
            by_cases q : w.lease = n
            · rw [h.number (by omega)]
            · simp [q]
          have u := h.up b1 b8 m (max (c.gr n.toNat) m) (by rw [eg])
          rw [hd]
          cases w.drops n m with
          | true => exact u.freed
          | false => exact u

end Go.Proofs.Ytmnpnnegnlhemaa.Eng
