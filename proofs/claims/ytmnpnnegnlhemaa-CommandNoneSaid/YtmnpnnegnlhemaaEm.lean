/- The engine's regions whose order is drawn: one walk in the text's order and a check of what may come earlier or later serve every order. Plain lemmas; no statement of the seat. -/
import Derived.Test.YtmnpnnegnlhemaaEl
namespace Go.Proofs.Ytmnpnnegnlhemaa.Eng
open Go

/-! ### What is known before anything runs -/
def edges (o : Oper) : List Nat := (o.after.toList.filter (Region.binds .any)).map (·.on)

def masks : List Oper → List Nat → List Nat
  | [], acc => acc
  | o :: r, acc => masks r (acc ++ [(edges o).foldl (fun s j => s ||| 2 ^ j ||| acc.getD j 0) 0])

/-- j is ahead of i. -/
def anc (M : List Nat) (j i : Nat) : Bool := (M.getD i 0).testBit j

def tmpsOf : List Operand → List Nat
  | [] => []
  | .tmp t :: l => t :: tmpsOf l
  | _ :: l => tmpsOf l

theorem mem_tmpsOf {t : Nat} : ∀ {l : List Operand}, Operand.tmp t ∈ l → t ∈ tmpsOf l
  | [], h => by simp at h
  | x :: l, h => by
    rcases List.mem_cons.1 h with rfl | h
    · simp [tmpsOf]
    · have := mem_tmpsOf h
      cases x <;> simp [tmpsOf, this]

def slotsOf (ops : List Oper) (o : Oper) : List Nat :=
  tmpsOf (sopOps o.op) ++ (match o.guard with | some (j, _) => (gdst (onth ops j)).toList | none => []) ++ o.dst.toList

def effAt (ops : List Oper) (i : Nat) : Bool := match onth ops i with | some o => effOp o.op | none => false
def pureAt (ops : List Oper) (i : Nat) : Bool := match onth ops i with | some o => pureOp o.op | none => true

def statOk1 (ops : List Oper) (M : List Nat) (i : Nat) (o : Oper) : Bool :=
  (edges o).all (fun e => decide (e < i)) &&
  (List.range ops.length).all (fun j => !(anc M j i) || (edges o).any (fun e => e == j || anc M j e)) &&
  (slotsOf ops o).all (fun t => (List.range ops.length).all fun j => j == i || !(gdst (onth ops j) == some t) || anc M j i || anc M i j)

def statOk (ops : List Oper) : Bool :=
  (List.range ops.length).all fun i => match onth ops i with
    | some o => statOk1 ops (masks ops []) i o
    | none => false

def effD (ops : List Oper) : Nat → List Nat
  | 0 => []
  | i + 1 => match effAt ops i with
    | true => i :: effD ops i
    | false => effD ops i

def subs : List Nat → List (List Nat)
  | [] => [[]]
  | i :: r => subs r ++ (subs r).map (i :: ·)

theorem filter_mem_subs (p : Nat → Bool) : ∀ l : List Nat, l.filter p ∈ subs l
  | [] => by simp [subs]
  | i :: r => by
    have ih := filter_mem_subs p r
    simp only [subs, List.filter_cons, List.mem_append, List.mem_map]
    split
    · exact .inr ⟨_, ih, rfl⟩
    · exact .inl ih

def possB (ops : List Oper) (M eff T : List Nat) (i : Nat) : Bool :=
  !(T.contains i) && eff.all (fun j => !(anc M j i) || T.contains j) && T.all (fun j => !(anc M i j)) && T.all (fun j => eff.all fun k => !(anc M k j) || T.contains k) &&
  !(pureAt ops i) && !(T == eff.filter (fun j => decide (j < i)))

def mkPlan (ops : List Oper) : List (List Nat × Nat) :=
  (subs (effD ops ops.length)).flatMap fun T => ((List.range ops.length).filter (possB ops (masks ops []) (effD ops ops.length) T)).map fun i => (T, i)

def insE (eff T : List Nat) (i : Nat) : List Nat := eff.filter fun j => T.contains j || j == i

/-! ### The walk in the text's order -/
def qAt : List Oper → Nat → Nat → Option Nat
  | [], _, _ => none
  | o :: _, b, 0 => match allocOp o.op with
    | true => some b
    | false => none
  | o :: r, b, i + 1 => qAt r (match allocOp o.op with | true => b + 1 | false => b) i

def holes : List Oper → List AB
  | [] => []
  | o :: r => match allocOp o.op with
    | true => .hole :: holes r
    | false => holes r

section
variable (P : Program) (E : Addr → Option Value) (Γ : Con) (ops : List Oper) (b : Nat) (τ0 : List SV) (H0 : List AB)

def stp (i : Nat) (τ : List SV) (H : List AB) : Res := match onth ops i with
  | some o => stepR P E Γ ops (qAt ops b i) o τ H
  | none => no

def nxt (d : Option Tmp) (τ : List SV) : Res → List SV × List AB
  | ⟨_, v, h⟩ => (tput τ d v, h)

def pref : Nat → List SV × List AB
  | 0 => (τ0, H0)
  | i + 1 => nxt (gdst (onth ops i)) (pref i).1 (stp P E Γ ops b i (pref i).1 (pref i).2)

def hpOf : List Nat → List AB
  | [] => H0
  | i :: T => (stp P E Γ ops b i (pref P E Γ ops b τ0 H0 i).1 (hpOf T)).heap

def preL : Nat → Prop
  | 0 => True
  | i + 1 => preL i ∧ (stp P E Γ ops b i (pref P E Γ ops b τ0 H0 i).1 (pref P E Γ ops b τ0 H0 i).2).pre

def chk2 (eff : Bool) (v : SV) (h : List AB) : Res → Prop
  | ⟨p, v', h'⟩ => p ∧ v' = v ∧ match eff with | true => h' = h | false => True

def chk (T : List Nat) (i : Nat) : Prop :=
  chk2 (effAt ops i) (stp P E Γ ops b i (pref P E Γ ops b τ0 H0 i).1 (pref P E Γ ops b τ0 H0 i).2).val (hpOf P E Γ ops b τ0 H0 (insE (effD ops ops.length) T i))
    (stp P E Γ ops b i (pref P E Γ ops b τ0 H0 i).1 (hpOf P E Γ ops b τ0 H0 T))

def chkL : List (List Nat × Nat) → Prop
  | [] => True
  | (T, i) :: r => chk P E Γ ops b τ0 H0 T i ∧ chkL r

theorem chkL_mem {l : List (List Nat × Nat)} (h : chkL P E Γ ops b τ0 H0 l) : ∀ {T : List Nat} {i : Nat}, (T, i) ∈ l → chk P E Γ ops b τ0 H0 T i := by
  induction l with
  | nil => intro T i hm; simp at hm
  | cons x l ih =>
    obtain ⟨T', i'⟩ := x
    intro T i hm
    rcases List.mem_cons.1 hm with e | hm
    · cases e; exact h.1
    · exact ih h.2 hm

theorem preL_lt : ∀ {n i : Nat}, preL P E Γ ops b τ0 H0 n → i < n → (stp P E Γ ops b i (pref P E Γ ops b τ0 H0 i).1 (pref P E Γ ops b τ0 H0 i).2).pre
  | 0, i, _, h => by omega
  | n + 1, i, hp, h => by
    rcases Nat.lt_succ_iff_lt_or_eq.1 h with q | rfl
    · exact preL_lt hp.1 q
    · exact hp.2

theorem effD_lt : ∀ (n j : Nat), j ∈ effD ops n → j < n ∧ effAt ops j = true
  | 0, j, h => by simp [effD] at h
  | n + 1, j, h => by
    unfold effD at h
    split at h
    · rename_i he
      rcases List.mem_cons.1 h with rfl | h
      · exact ⟨by omega, he⟩
      · have := effD_lt n j h; exact ⟨by omega, this.2⟩
    · have := effD_lt n j h; exact ⟨by omega, this.2⟩

theorem mem_effD : ∀ (n j : Nat), j < n → effAt ops j = true → j ∈ effD ops n
  | 0, j, h, _ => by omega
  | n + 1, j, h, he => by
    unfold effD
    rcases Nat.lt_succ_iff_lt_or_eq.1 h with q | rfl
    · split
      · exact List.mem_cons.2 (.inr (mem_effD n j q he))
      · exact mem_effD n j q he
    · rw [he]; simp

theorem effD_filter (i : Nat) : ∀ n, i ≤ n → (effD ops n).filter (fun j => decide (j < i)) = effD ops i
  | 0, h => by
    obtain rfl : i = 0 := by omega
    simp [effD]
  | n + 1, h => by
    by_cases hi : i = n + 1
    · subst hi
      rw [List.filter_eq_self]
      intro j hj
      simpa using (effD_lt ops _ j hj).1
    · have ih := effD_filter i n (by omega)
      conv => lhs; unfold effD
      split
      · rw [List.filter_cons, if_neg (by simp; omega)]; exact ih
      · exact ih

theorem effAt_some {i : Nat} (h : effAt ops i = true) : ∃ o, onth ops i = some o ∧ effOp o.op = true := by
  unfold effAt at h
  split at h
  · rename_i o ho; exact ⟨o, ho, h⟩
  · cases h

theorem stp_heap {i : Nat} {τ : List SV} {H : List AB} (he : effAt ops i = false) (hp : (stp P E Γ ops b i τ H).pre) : (stp P E Γ ops b i τ H).heap = H := by
  unfold stp at hp ⊢
  unfold effAt at he
  split at hp
  · rename_i o ho
    rw [ho] at he
    exact stepR_heap P E Γ ops _ o τ he H hp
  · exact hp.elim

theorem text_heap (n : Nat) (hp : preL P E Γ ops b τ0 H0 n) : ∀ i, i ≤ n → (pref P E Γ ops b τ0 H0 i).2 = hpOf P E Γ ops b τ0 H0 (effD ops i)
  | 0, _ => by simp [pref, effD, hpOf]
  | i + 1, h => by
    have ih := text_heap n hp i (by omega)
    have hpi := preL_lt P E Γ ops b τ0 H0 hp (show i < n by omega)
    have e : (pref P E Γ ops b τ0 H0 (i + 1)).2 = (stp P E Γ ops b i (pref P E Γ ops b τ0 H0 i).1 (pref P E Γ ops b τ0 H0 i).2).heap := by
      simp only [pref, nxt]
    rw [e]
    unfold effD
    split
    · simp only [hpOf]
      rw [ih]
    · rename_i he
      rw [stp_heap P E Γ ops b he hpi]
      exact ih

/-! ### Slots, whatever has run -/
def onL (L : Array Bool) (j : Nat) : Bool := L.getD j false

def look (L : Array Bool) (t : Nat) : Nat → SV
  | 0 => tg τ0 t
  | i + 1 => if onL L i = true ∧ gdst (onth ops i) = some t then tg (pref P E Γ ops b τ0 H0 (i + 1)).1 t else look L t i

theorem pref_other {i t : Nat} (h : gdst (onth ops i) ≠ some t) : tg (pref P E Γ ops b τ0 H0 (i + 1)).1 t = tg (pref P E Γ ops b τ0 H0 i).1 t := by
  simp only [pref, nxt]
  cases hd : gdst (onth ops i) with
  | none => rfl
  | some d =>
    simp only [tput, tset_eq, tg_eq]
    rw [List.getElem?_set_ne (by rintro rfl; exact h hd)]

theorem pref_length : ∀ i, (pref P E Γ ops b τ0 H0 i).1.length = τ0.length
  | 0 => rfl
  | i + 1 => by
    simp only [pref, nxt]
    cases gdst (onth ops i) with
    | none => exact pref_length i
    | some d => simp only [tput, tset_eq, List.length_set]; exact pref_length i

theorem look_low (L : Array Bool) (t : Nat) : ∀ i, (∀ j, j < i → gdst (onth ops j) = some t → onL L j = true) → look P E Γ ops b τ0 H0 L t i = tg (pref P E Γ ops b τ0 H0 i).1 t
  | 0, _ => rfl
  | i + 1, h => by
    unfold look
    split
    · rfl
    · rename_i hn
      have hne : gdst (onth ops i) ≠ some t := fun e => hn ⟨h i (by omega) e, e⟩
      rw [pref_other P E Γ ops b τ0 H0 hne]
      exact look_low L t i (fun j hj => h j (by omega))

theorem look_high (L : Array Bool) (t i : Nat) : ∀ n, i ≤ n → (∀ j, i ≤ j → j < n → gdst (onth ops j) = some t → onL L j = false) → look P E Γ ops b τ0 H0 L t n = look P E Γ ops b τ0 H0 L t i
  | 0, h, _ => by obtain rfl : i = 0 := by omega
                  rfl
  | n + 1, h, hh => by
    by_cases e : i = n + 1
    · subst e; rfl
    · conv => lhs; unfold look
      rw [if_neg (by rintro ⟨h1, h2⟩; have := hh n (by omega) (by omega) h2; rw [this] at h1; cases h1)]
      exact look_high L t i n (by omega) (fun j h1 h2 => hh j h1 (by omega))

theorem look_at (L : Array Bool) (t i n : Nat) (hi : i ≤ n) (h : ∀ j, j < n → gdst (onth ops j) = some t → (onL L j = true ↔ j < i)) : look P E Γ ops b τ0 H0 L t n = tg (pref P E Γ ops b τ0 H0 i).1 t := by
  rw [look_high P E Γ ops b τ0 H0 L t i n hi (fun j h1 h2 h3 => by
    cases hc : onL L j with
    | false => rfl
    | true => have := (h j h2 h3).1 hc; omega)]
  exact look_low P E Γ ops b τ0 H0 L t i (fun j h1 h2 => (h j (by omega) h2).2 h1)

theorem look_set (L : Array Bool) (t i : Nat) (hd : gdst (onth ops i) ≠ some t) : ∀ n, look P E Γ ops b τ0 H0 (L.setIfInBounds i true) t n = look P E Γ ops b τ0 H0 L t n
  | 0 => rfl
  | n + 1 => by
    unfold look
    rw [look_set L t i hd n]
    by_cases e : n = i
    · subst e
      rw [if_neg (fun h => hd h.2), if_neg (fun h => hd h.2)]
    · have : onL (L.setIfInBounds i true) n = onL L n := by unfold onL; exact getD_set_ne false (Ne.symm e)
      rw [this]
end

theorem RL_of_get {ρ : Env} : ∀ {τ : List SV} {vs : List Value}, τ.length = vs.length → (∀ t, R ρ (tg τ t) (vs.getD t undef)) → RL ρ τ vs
  | [], [], _, _ => by simp [RL]
  | [], _ :: _, h, _ => by simp at h
  | _ :: _, [], h, _ => by simp at h
  | s :: τ, v :: vs, h, hr => by
    simp only [RL]
    refine ⟨by simpa [tg] using hr 0, RL_of_get (by simpa using h) (fun t => ?_)⟩
    simpa [tg] using hr (t + 1)

end Go.Proofs.Ytmnpnnegnlhemaa.Eng
