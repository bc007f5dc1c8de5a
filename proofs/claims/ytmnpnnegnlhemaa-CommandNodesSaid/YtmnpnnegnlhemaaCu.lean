/- A node of the program beside one of the reference; the law on nodes, by the engine. -/
import Derived.Test.YtmnpnnegnlhemaaCt
namespace Go.Proofs.Ytmnpnnegnlhemaa.Eng
open Go

structure NR (x : Nod) (r : RN) : Prop where
  now : x.now = r.clock
  number : x.number = r.number
  term : x.term = r.term
  en : x.en = r.en
  last : x.last = r.last
  len : x.len = r.len
  an : ∀ k, k < x.len → x.an (x.off + k) = r.an k
  av : ∀ k, k < x.len → x.av (x.off + k) = r.av k

theorem NR.holds {x : Nod} {r : RN} (h : NR x r) : x.holds = r.holds := by unfold Nod.holds RN.holds; rw [h.now, h.en]
theorem NR.full {x : Nod} {r : RN} (h : NR x r) : x.full = r.full := by unfold Nod.full RN.full; rw [h.last]

theorem NR.fall {x : Nod} {r : RN} (h : NR x r) : NR x.fall r.fall :=
  ⟨h.now, h.number, h.term, h.now, h.last, rfl, fun k hk => absurd hk (Nat.not_lt_zero _), fun k hk => absurd hk (Nat.not_lt_zero _)⟩
theorem NR.tk {x : Nod} {r : RN} (h : NR x r) : NR x.tk { r with clock := IntKind.i64.wrap (r.clock + 1) } :=
  ⟨by simp only [Nod.tk, h.now], h.number, h.term, h.en, h.last, h.len, h.an, h.av⟩
theorem NR.ret {x : Nod} {r : RN} (h : NR x r) : NR x.ret r.ret := by
  unfold Nod.ret RN.ret
  rw [h.last]
  cases decide (r.last = 0)
  · exact h.fall
  · exact h
theorem NR.ask {x : Nod} {r : RN} (h : NR x r) : NR x.ask r.ask := by
  unfold Nod.ask RN.ask
  rw [h.full]
  cases r.full
  · refine ⟨h.now, h.number, h.term, h.en, by simp only [h.last, Bool.false_eq_true, if_false], by simp only [Nod.add, h.len, Bool.false_eq_true, if_false], ?_, ?_⟩
    · intro k hk
      simp only [Nod.add, Bool.false_eq_true, if_false, Nat.zero_add] at hk ⊢
      rw [← h.len]
      split
      · rename_i q; exact h.an k q
      · rw [h.last]
    · intro k hk
      simp only [Nod.add, Bool.false_eq_true, if_false, Nat.zero_add] at hk ⊢
      rw [← h.len]
      split
      · rename_i q; exact h.av k q
      · rw [h.now]
  · exact h

theorem firstAt_congr {p q : Nat → Bool} : ∀ (n k : Nat), (∀ i, k ≤ i → i < k + n → p i = q i) → firstAt p k n = firstAt q k n
  | 0, _, _ => rfl
  | n + 1, k, h => by
    simp only [firstAt]
    rw [h k (Nat.le_refl _) (by omega), firstAt_congr n (k + 1) (fun i h1 h2 => h i (by omega) (by omega))]

theorem NR.at {x : Nod} {r : RN} (h : NR x r) (m : Int) : x.at m = r.at m := by
  unfold Nod.at RN.at
  rw [h.len]
  exact firstAt_congr _ _ (fun i _ hi => by rw [h.an i (by rw [h.len]; omega)])
theorem NR.hit {x : Nod} {r : RN} (h : NR x r) (m : Int) : x.hit m = r.hit m := by unfold Nod.hit RN.hit; rw [h.at, h.len]
theorem NR.mine {x : Nod} {r : RN} (h : NR x r) (k n m : Int) : x.mine k n m = r.mine k n m := by unfold Nod.mine RN.mine; rw [h.number]
theorem NR.hearE {x : Nod} {r : RN} (h : NR x r) (k n m : Int) : x.hearE k n m = r.hearE k n m := by
  unfold Nod.hearE RN.hearE
  rw [h.mine]
  cases r.mine k n m <;> rfl
theorem NR.gets {x : Nod} {r : RN} (h : NR x r) (k n m : Int) : x.gets k n m = r.gets k n m := by
  unfold Nod.gets RN.gets
  rw [h.mine, h.hit]
  cases r.mine k n m <;> cases decide (k = 2) <;> rfl
theorem NR.hear {x : Nod} {r : RN} (h : NR x r) (k n m : Int) : NR (x.hear k n m) (r.hear k n m) := by
  unfold Nod.hear RN.hear
  rw [h.gets]
  cases hg : r.gets k n m with
  | false => exact h
  | true =>
    have hh : x.hit m = true := by
      rw [h.hit]
      unfold RN.gets at hg
      cases hm : r.mine k n m <;> rw [hm] at hg
      · cases hg
      · cases hk : decide (k = 2) <;> rw [hk] at hg
        · cases hg
        · exact hg
    have hlt : x.at m < x.len := by simpa [Nod.hit] using hh
    have e : x.takes m = { x with off := x.off + (x.at m + 1), len := x.len - (x.at m + 1) } := by unfold Nod.takes; rw [hh]
    simp only [e]
    refine ⟨h.now, h.number, h.term, ?_, h.last, by rw [h.at, h.len], ?_, ?_⟩
    · simp only; rw [h.en, h.av _ hlt, h.at, h.term]
    · intro j hj
      simp only at hj ⊢
      rw [Nat.add_assoc, h.an _ (by omega), h.at]
    · intro j hj
      simp only at hj ⊢
      rw [Nat.add_assoc, h.av _ (by omega), h.at]

def RN.ask0 (x : RN) : Int := bsl x.full 0 1
def RN.ask1 (x : RN) : Int := bsl x.full 0 x.number
def RN.ask2 (x : RN) : Int := bsl x.full 0 (IntKind.i64.wrap (x.last + 1))
def RN.ask3 (x : RN) : Int := bsl x.full 6 0
def RN.ret0 (x : RN) : Int := bsl (decide (x.last = 0)) 0 3
def RN.ret1 (x : RN) : Int := bsl (decide (x.last = 0)) 0 x.number
def RN.ret2 (x : RN) : Int := bsl (decide (x.last = 0)) 0 x.last
def RN.ret3 (x : RN) : Int := bsl (decide (x.last = 0)) 9 0
theorem NR.ask0 {x : Nod} {r : RN} (h : NR x r) : x.ask0 = r.ask0 := by unfold Nod.ask0 RN.ask0; simp only [h.full]
theorem NR.ask1 {x : Nod} {r : RN} (h : NR x r) : x.ask1 = r.ask1 := by unfold Nod.ask1 RN.ask1; simp only [h.full, h.number]
theorem NR.ask2 {x : Nod} {r : RN} (h : NR x r) : x.ask2 = r.ask2 := by unfold Nod.ask2 RN.ask2; simp only [h.full, h.last]
theorem NR.ask3 {x : Nod} {r : RN} (h : NR x r) : x.ask3 = r.ask3 := by unfold Nod.ask3 RN.ask3; simp only [h.full]
theorem NR.ret0 {x : Nod} {r : RN} (h : NR x r) : x.ret0 = r.ret0 := by unfold Nod.ret0 RN.ret0; simp only [h.last]
theorem NR.ret1 {x : Nod} {r : RN} (h : NR x r) : x.ret1 = r.ret1 := by unfold Nod.ret1 RN.ret1; simp only [h.number, h.last]
theorem NR.ret2 {x : Nod} {r : RN} (h : NR x r) : x.ret2 = r.ret2 := by unfold Nod.ret2 RN.ret2; simp only [h.last]
theorem NR.ret3 {x : Nod} {r : RN} (h : NR x r) : x.ret3 = r.ret3 := by unfold Nod.ret3 RN.ret3; simp only [h.last]
theorem ret_wordR (x : RN) (i : Nat) : x.retA i = .tup [eRN x.ret i, .agg [.raw (.int .i64 x.ret0), .raw (.int .i64 x.ret1), .raw (.int .i64 x.ret2)], .raw (.int .i64 x.ret3)] := by
  unfold RN.retA word RN.ret0 RN.ret1 RN.ret2 RN.ret3 bsl
  cases decide (x.last = 0) <;> rfl
theorem ask_wordR (x : RN) (i : Nat) : x.askA i = .tup [eRN x.ask i, .agg [.raw (.int .i64 x.ask0), .raw (.int .i64 x.ask1), .raw (.int .i64 x.ask2)], .raw (.int .i64 x.ask3)] := by
  unfold RN.askA word RN.ask0 RN.ask1 RN.ask2 RN.ask3 bsl
  cases x.full <;> rfl

/-- What the laws on nodes call. -/
def ΓY : Con := fun f args H => match f with
  | .func 18 => match args with
    | [.agg l] => onRN (fun x => (x.askA 1, [.dead, bRN x.ask])) RN.room l H
    | _ => no
  | .func 20 => match args with
    | [.agg l, .agg [.raw (.int .i64 k), .raw (.int .i64 n), .raw (.int .i64 m)]] => onRN (fun x => (.tup [eRN (x.hear k n m) 1, ri (x.hearE k n m)], [.dead, bRN (x.hear k n m)])) RN.room l H
    | _ => no
  | .func 22 => match args with
    | [.agg l] => onRN (fun x => (eRN x.fall 1, [.dead, bRN x.fall])) (fun _ => True) l H
    | _ => no
  | .func 24 => match args with
    | [.agg l] => onRN (fun x => (x.retA 1, [.dead, bRN x.ret])) (fun _ => True) l H
    | _ => no
  | .func 28 => match args with
    | [.agg l] => onRN (fun x => (.raw (.bool x.holds), [bRN x])) (fun _ => True) l H
    | _ => no
  | f => ΓL f args H
theorem ΓY_sound (E : Addr → Option Value) : Con.Sound Try.prog E ΓY := by
  intro f args H h
  unfold ΓY at h ⊢
  split at h
  · split at h
    · exact onRN_sound (args := []) (fun x hx => ok18 E x hx) (fun _ => rfl) rfl h
    · exact h.elim
  · split at h
    · rename_i l k n m
      exact onRN_sound (args := [word k n m]) (fun x hx => ok20 E x k n m hx) (fun _ => rfl) rfl h
    · exact h.elim
  · split at h
    · exact onRN_sound (args := []) (fun x _ => ok22 E x) (fun _ => rfl) rfl h
    · exact h.elim
  · split at h
    · exact onRN_sound (args := []) (fun x _ => ok24 E x) (fun _ => rfl) rfl h
    · exact h.elim
  · split at h
    · exact onRN_sound (args := []) (fun x _ => ok28 E x) (fun _ => rfl) rfl h
    · exact h.elim
  · exact ΓL_sound E f args H h
end Go.Proofs.Ytmnpnnegnlhemaa.Eng
