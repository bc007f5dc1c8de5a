/- The engine's frames: slots, and a region that runs in the text's order. Plain lemmas; no statement of the seat. -/
import Derived.Test.YtmnpnnegnlhemaaEj
namespace Go.Proofs.Ytmnpnnegnlhemaa.Eng
open Go

/-! ### Slots -/
def tg : List SV → Nat → SV
  | [], _ => .raw undef
  | s :: _, 0 => s
  | _ :: l, n + 1 => tg l n

def tset : List SV → Nat → SV → List SV
  | [], _, _ => []
  | _ :: l, 0, v => v :: l
  | s :: l, n + 1, v => s :: tset l n v

def tput (τ : List SV) : Option Tmp → SV → List SV
  | none, _ => τ
  | some d, v => tset τ d v

def sev (τ : List SV) : Operand → SV
  | .tmp t => tg τ t
  | .const v => .raw v
  | .global g => .raw (.pointer (some ⟨g, 0, none⟩))
  | .func f => .raw (.func (.func f) #[] #[])

theorem tset_eq : ∀ (l : List SV) (n : Nat) (v : SV), tset l n v = l.set n v
  | [], _, _ => by simp [tset]
  | _ :: l, 0, v => by simp [tset]
  | s :: l, n + 1, v => by simp [tset, tset_eq l n v]

theorem tg_eq : ∀ (l : List SV) (n : Nat), tg l n = (l[n]?).getD (.raw undef)
  | [], _ => by simp [tg]
  | s :: _, 0 => by simp [tg]
  | _ :: l, n + 1 => by simp [tg, tg_eq l n]

theorem R_tg {ρ : Env} {τ : List SV} {ts : Array Value} (h : RL ρ τ ts.toList) (t : Nat) : R ρ (tg τ t) (ts.getD t undef) := by
  rw [tg_eq]
  cases hv : τ[t]? with
  | some s =>
    obtain ⟨x, hx, hr⟩ := h.get t s hv
    have : ts[t]? = some x := by simpa using hx
    simp only [Option.getD_some]
    rw [Array.getD_eq_getD_getElem?, this]
    exact hr
  | none =>
    have hl := h.length
    have : ts[t]? = none := by
      rw [List.getElem?_eq_none_iff] at hv
      rw [Array.getElem?_eq_none_iff]
      simp at hl; omega
    simp only [Option.getD_none]
    rw [Array.getD_eq_getD_getElem?, this]
    simp [R]

theorem R_sev {ρ : Env} {τ : List SV} {a : Act} (h : RL ρ τ a.tmps.toList) (x : Operand) : R ρ (sev τ x) (a.eval x) := by
  cases x with
  | tmp t => exact R_tg h t
  | const v => simp [sev, R, Act.eval]
  | global g => simp [sev, R, Act.eval]
  | func f => simp [sev, R, Act.eval]

theorem RL_put {ρ : Env} {τ : List SV} {a : Act} (h : RL ρ τ a.tmps.toList) (d : Option Tmp) (s : SV) (v : Value) (hr : R ρ s v) : RL ρ (tput τ d s) (a.put d v).tmps.toList := by
  cases d with
  | none => exact h
  | some d =>
    simp only [tput, tset_eq, Act.put, Array.toList_setIfInBounds]
    exact h.set d s v hr

theorem put_defers (a : Act) (d : Option Tmp) (v : Value) : (a.put d v).defers = a.defers := by cases d <;> rfl

/-! ### Guards -/
def onth : List Oper → Nat → Option Oper
  | [], _ => none
  | o :: _, 0 => some o
  | _ :: l, n + 1 => onth l n

theorem onth_eq : ∀ (l : List Oper) (n : Nat), onth l n = l[n]?
  | [], _ => by simp [onth]
  | s :: _, 0 => by simp [onth]
  | _ :: l, n + 1 => by simp [onth, onth_eq l n]

def wants (want b : Bool) : Bool := match want with
  | true => b
  | false => !b

def gb (want : Bool) : SV → Prop × Bool
  | .raw (.bool b) => (True, wants want b)
  | .opt g (.raw (.bool b)) => (True, g && wants want b)
  | _ => (False, false)

def gdst : Option Oper → Option Tmp
  | some o => o.dst
  | none => none

def gslot (τ : List SV) : Option Tmp → SV
  | some d => tg τ d
  | none => .junk

theorem gb_sound {ρ : Env} {τ : List SV} {a : Act} {ops : List Oper} (h : RL ρ τ a.tmps.toList) {o : Oper} {j : Nat} {want : Bool} (hg : o.guard = some (j, want)) (hp : (gb want (gslot τ (gdst (onth ops j)))).1) :
    Region.wanted o (yielded ops.toArray a.tmps) = (gb want (gslot τ (gdst (onth ops j)))).2 := by
  rw [onth_eq] at hp ⊢
  simp only [Region.wanted, hg, yielded, List.getElem?_toArray]
  cases ho : ops[j]? with
  | none => rw [ho] at hp; exact hp.elim
  | some oj =>
    rw [ho] at hp
    simp only [gdst, Option.bind_some] at hp ⊢
    cases hd : oj.dst with
    | none => rw [hd] at hp; exact hp.elim
    | some d =>
      rw [hd] at hp
      simp only [gslot, Option.bind_some] at hp ⊢
      rw [tg_eq] at hp ⊢
      cases hv : τ[d]? with
      | none => rw [hv] at hp; exact hp.elim
      | some s =>
        rw [hv] at hp
        obtain ⟨x, hx, hr⟩ := h.get d s hv
        have hx' : a.tmps[d]? = some x := by simpa using hx
        rw [hx']
        simp only [Option.getD_some] at hp ⊢
        unfold gb at hp ⊢
        split at hp
        · simp only [R] at hr
          subst hr
          rename_i b
          cases want <;> cases b <;> rfl
        · rename_i g b
          simp only [R] at hr
          cases g with
          | true => have := hr.1 rfl; subst this; cases want <;> cases b <;> rfl
          | false => have := hr.2 rfl; subst this; cases want <;> rfl
        · exact hp.elim

/-! ### One operation in its frame -/
structure St where
  pre : Prop
  tm : List SV
  hp : List AB

def r0 (n : Prop) : Res → Res
  | ⟨p, v, h⟩ => ⟨n ∧ p, v, h⟩

def r2 (n : Prop) (g : Bool) (H : List AB) : Res → Res
  | ⟨p, v, h⟩ => ⟨n ∧ (g = true → p), .opt g v, if g = true then h else H⟩

section
variable (P : Program) (E : Addr → Option Value) (Γ : Con)

def r1 (q : Option Nat) (o : Oper) (τ : List SV) (H : List AB) : Prop × Bool → Res
  | (p, g) => r2 (p ∧ needs (sev τ) g (opNeeds o.op)) g H (sop P E Γ q H (sev τ) o.op)

def stepR (ops : List Oper) (q : Option Nat) (o : Oper) (τ : List SV) (H : List AB) : Res :=
  match o.guard with
  | none => r0 (needs (sev τ) true (opNeeds o.op)) (sop P E Γ q H (sev τ) o.op)
  | some (j, want) => r1 P E Γ q o τ H (gb want (gslot τ (gdst (onth ops j))))

def contA (k : Prop → List SV → List AB → St) (acc : Prop) (d : Option Tmp) (τ : List SV) : Res → St
  | ⟨p, v, h⟩ => k (acc ∧ p) (tput τ d v) h

/-- A region in the text's order. -/
def srunA (ops : List Oper) : List Oper → Prop → List SV → List AB → St
  | [], acc, τ, H => ⟨acc, τ, H⟩
  | o :: r, acc, τ, H => contA (srunA ops r) acc o.dst τ (stepR P E Γ ops none o τ H)

theorem srunA_acc (ops : List Oper) : ∀ (r : List Oper) (acc : Prop) (τ : List SV) (H : List AB), (srunA P E Γ ops r acc τ H).pre → acc
  | [], _, _, _, h => h
  | o :: r, acc, τ, H, h => by
    simp only [srunA] at h
    generalize stepR P E Γ ops none o τ H = s at h
    obtain ⟨p, v, H'⟩ := s
    exact (srunA_acc ops r _ _ _ h).1
end

theorem wp_op_step {P : Program} {g : G} {ρ : Env} {H : List AB} {w : World} {Γ : Con} {ops : List Oper} {q : Option Nat} {τ : List SV} {a : Act} {o : Oper}
    (hs : Sat g ρ H w) (hΓ : Con.Sound P g.E Γ) (ht : RL ρ τ a.tmps.toList) (h : (stepR P g.E Γ ops q o τ H).pre)
    {K : Act → World → Prop} {Q : Exit → Act → World → Prop}
    (hK : ∀ ρ' a' w' x, Env.le ρ ρ' → Sat g ρ' (stepR P g.E Γ ops q o τ H).heap w' → R ρ' (stepR P g.E Γ ops q o τ H).val x → a' = a.put o.dst x → K a' w') :
    if Region.wanted o (yielded ops.toArray a.tmps) then o.wp P a w K Q ∨ (o.asks P a w ∧ LetsOut Q) else K (a.put o.dst undef) w := by
  unfold stepR at h hK
  cases hg : o.guard with
  | none =>
    rw [hg] at h hK
    simp only [Region.wanted, hg, if_true]
    left
    have hn := h.1
    exact sop_sound (ev := sev τ) hs hΓ (fun x hx => needs_spec rfl hn x hx (R_sev ht x)) (fun x => R_sev ht x) h.2 (fun ρ' x w' h1 h2 h3 => hK ρ' _ w' x h1 h2 h3 rfl)
  | some jw =>
    obtain ⟨j, want⟩ := jw
    rw [hg] at h hK
    simp only [r1, r2] at h hK
    have hwant := gb_sound (ops := ops) ht hg h.1.1
    rw [hwant]
    cases hb : (gb want (gslot τ (gdst (onth ops j)))).2 with
    | true =>
      rw [hb] at h hK
      simp only [if_true] at hK ⊢
      left
      exact sop_sound (ev := sev τ) hs hΓ (fun x hx => needs_spec rfl h.1.2 x hx (R_sev ht x)) (fun x => R_sev ht x) (h.2 rfl) (fun ρ' x w' h1 h2 h3 =>
        hK ρ' _ w' x h1 h2 (by simp only [R]; exact ⟨fun _ => h3, fun e => by cases e⟩) rfl)
    | false =>
      rw [hb] at h hK
      simp only [Bool.false_eq_true, if_false] at hK ⊢
      exact hK ρ _ w undef (Env.le_refl _) hs (by simp [R]) rfl

theorem srunA_sound {P : Program} {g : G} {Γ : Con} {ops : List Oper} (hΓ : Con.Sound P g.E Γ) {Q : Exit → Act → World → Prop} : ∀ (r : List Oper) (acc : Prop) (ρ : Env) (τ : List SV) (H : List AB) (a : Act) (w : World),
    Sat g ρ H w → RL ρ τ a.tmps.toList → (srunA P g.E Γ ops r acc τ H).pre →
    (∀ ρ' a' w', Env.le ρ ρ' → Sat g ρ' (srunA P g.E Γ ops r acc τ H).hp w' → RL ρ' (srunA P g.E Γ ops r acc τ H).tm a'.tmps.toList → a'.defers = a.defers → Q .normal a' w') →
    wpList P ops.toArray Q r a w
  | [], acc, ρ, τ, H, a, w, hs, ht, _, hK => hK ρ a w (Env.le_refl _) hs ht rfl
  | o :: r, acc, ρ, τ, H, a, w, hs, ht, h, hK => by
    simp only [srunA] at h hK
    have hpre : (stepR P g.E Γ ops none o τ H).pre := by
      generalize stepR P g.E Γ ops none o τ H = s at h
      obtain ⟨p, v, H'⟩ := s
      exact (srunA_acc P g.E Γ ops r _ _ _ h).2
    exact wp_op_step (K := wpList P ops.toArray Q r) (Q := Q) hs hΓ ht hpre (fun ρ' a' w' x h1 h2 h3 h4 => by
      subst h4
      generalize stepR P g.E Γ ops none o τ H = s at h hK h2 h3
      obtain ⟨p, v, H'⟩ := s
      exact srunA_sound hΓ r _ ρ' _ H' _ w' h2 (RL_put (RL.mono h1 _ _ ht) _ _ _ h3) h (fun ρ'' a'' w'' k1 k2 k3 k4 => hK ρ'' a'' w'' (Env.le_trans h1 k1) k2 k3 (k4.trans (put_defers _ _ _))))

/-! ### What goes on from a loop's head, or out of a function: the heap is cut to its first blocks -/
mutual
def sc (n : Nat) : SV → Bool
  | .junk => true
  | .raw _ => true
  | .opt _ v => sc n v
  | .ptr i _ => decide (i < n)
  | .pel i _ _ _ => decide (i < n)
  | .lst i _ _ _ => decide (i < n)
  | .mapv i => decide (i < n)
  | .fn _ a b => scs n a && scs n b
  | .agg l => scs n l
  | .tup l => scs n l
def scs (n : Nat) : List SV → Bool
  | [] => true
  | v :: l => sc n v && scs n l
end

def Env.cut (ρ : Env) (n : Nat) : Env := fun i => if i < n then ρ i else none

theorem Env.cut_lt {ρ : Env} {n i : Nat} (h : i < n) : (ρ.cut n) i = ρ i := by simp [Env.cut, h]

mutual
theorem R.cut {ρ : Env} {n : Nat} : ∀ (s : SV) (x : Value), sc n s = true → R ρ s x → R (ρ.cut n) s x
  | .junk, _, _, _ => by simp only [R]
  | .raw v, x, _, e => by simpa only [R] using e
  | .opt g v, x, h, e => by
    simp only [R, sc] at e h ⊢
    exact ⟨fun hg => R.cut v x h (e.1 hg), e.2⟩
  | .ptr i o, x, h, e => by
    simp only [R, sc, decide_eq_true_eq] at e h ⊢
    rw [Env.cut_lt h]; exact e
  | .pel i sz k j, x, h, e => by
    simp only [R, sc, decide_eq_true_eq] at e h ⊢
    rw [Env.cut_lt h]; exact e
  | .lst i sz off len, x, h, e => by
    simp only [R, sc, decide_eq_true_eq] at e h ⊢
    rw [Env.cut_lt h]; exact e
  | .mapv i, x, h, e => by
    simp only [R, sc, decide_eq_true_eq] at e h ⊢
    rw [Env.cut_lt h]; exact e
  | .fn f fi ca, x, h, e => by
    simp only [R, sc, Bool.and_eq_true] at e h ⊢
    obtain ⟨a, b, h1, h2, h3⟩ := e
    exact ⟨a, b, h1, RL.cut fi _ h.1 h2, RL.cut ca _ h.2 h3⟩
  | .agg cs, x, h, e => by
    simp only [R, sc] at e h ⊢
    obtain ⟨a, h1, h2⟩ := e
    exact ⟨a, h1, RL.cut cs _ h h2⟩
  | .tup cs, x, h, e => by
    simp only [R, sc] at e h ⊢
    obtain ⟨a, h1, h2⟩ := e
    exact ⟨a, h1, RL.cut cs _ h h2⟩
theorem RL.cut {ρ : Env} {n : Nat} : ∀ (l : List SV) (r : List Value), scs n l = true → RL ρ l r → RL (ρ.cut n) l r
  | [], [], _, _ => by simp only [RL]
  | s :: l, v :: r, h, e => by
    simp only [RL, scs, Bool.and_eq_true] at e h ⊢
    exact ⟨R.cut s v h.1 e.1, RL.cut l r h.2 e.2⟩
  | [], _ :: _, _, e => by simp only [RL] at e
  | _ :: _, [], _, e => by simp only [RL] at e
end

def scEnts (n : Nat) : List (Value × SV) → Bool
  | [] => true
  | (_, v) :: l => sc n v && scEnts n l

/-- One value's word gives another one's: a nil slice is a list of none. -/
def vwk1 : SV → SV → Prop
  | .lst _ _ _ len, .raw v => len = 0 ∧ v = .slice none 0 0
  | s, v => s = v
def vwks : List SV → List SV → Prop
  | [], [] => True
  | s :: l, v :: r => vwk1 s v ∧ vwks l r
  | _, _ => False
def vwk : SV → SV → Prop
  | .agg l, .agg r => vwks l r
  | .tup l, .tup r => vwks l r
  | s, v => vwk1 s v

theorem R.vwk1 {ρ : Env} {s v : SV} {x : Value} (h : Eng.vwk1 s v) (hr : R ρ v x) : R ρ s x := by
  unfold Eng.vwk1 at h
  split at h
  · obtain ⟨rfl, rfl⟩ := h
    simp only [R] at hr
    subst hr
    simp [R]
  · subst h; exact hr

theorem RL.vwks {ρ : Env} : ∀ {l r : List SV} {vs : List Value}, Eng.vwks l r → RL ρ r vs → RL ρ l vs
  | [], [], _, _, h => h
  | s :: l, v :: r, [], _, h => by simp only [RL] at h
  | s :: l, v :: r, x :: vs, hw, h => by
    simp only [RL, Eng.vwks] at h hw ⊢
    exact ⟨R.vwk1 hw.1 h.1, RL.vwks hw.2 h.2⟩
  | [], _ :: _, _, hw, _ => by simp [Eng.vwks] at hw
  | _ :: _, [], _, hw, _ => by simp [Eng.vwks] at hw

theorem R.vwk {ρ : Env} {s v : SV} {x : Value} (h : Eng.vwk s v) (hr : R ρ v x) : R ρ s x := by
  unfold Eng.vwk at h
  split at h
  · simp only [R] at hr ⊢
    obtain ⟨a, h1, h2⟩ := hr
    exact ⟨a, h1, RL.vwks h h2⟩
  · simp only [R] at hr ⊢
    obtain ⟨a, h1, h2⟩ := hr
    exact ⟨a, h1, RL.vwks h h2⟩
  · exact R.vwk1 h hr

/-- One block's word gives another one's. -/
def bwk (n : Nat) : AB → AB → Prop
  | .dead, _ => True
  | .cells cs t, .cells cs' t' => vwks cs cs' ∧ t = t' ∧ scs n cs = true
  | .lst m sz f t, .lst m' sz' f' t' => m ≤ m' ∧ sz = sz' ∧ t = t' ∧ (∀ k, k < m → f k = f' k) ∧ ∀ k, k < m → scs n (f k) = true
  | .map es, .map es' => es = es' ∧ scEnts n es = true
  | .lrec b τ l, .lrec b' τ' l' => (b = b' ∧ τ = τ' ∧ l = l') ∧ scs n τ = true
  | .lst m _ _ _, .hole => m = 0
  | _, _ => False

def hwk (n : Nat) : List AB → List AB → Prop
  | [], _ => True
  | a :: l, b :: r => bwk n a b ∧ hwk n l r
  | _ :: _, [] => False

theorem hwk_get {n : Nat} : ∀ {H' H : List AB}, hwk n H' H → H'.length ≤ H.length ∧ ∀ (i : Nat) (ab' : AB), H'[i]? = some ab' → ∃ ab, H[i]? = some ab ∧ bwk n ab' ab
  | [], _, _ => ⟨by simp, fun i ab' h => by simp at h⟩
  | a :: l, [], h => by simp [hwk] at h
  | a :: l, b :: r, h => by
    simp only [hwk] at h
    obtain ⟨h1, h2⟩ := hwk_get h.2
    refine ⟨by simp; omega, fun i ab' hi => ?_⟩
    cases i with
    | zero => simp at hi; subst hi; exact ⟨b, by simp, h.1⟩
    | succ i => simpa using h2 i ab' (by simpa using hi)

theorem REnts.cut {ρ : Env} {n : Nat} : ∀ (q : Nat) (l : List (Value × SV)) (r : List MapEntry), scEnts n l = true → REnts ρ q l r → REnts (ρ.cut n) q l r
  | _, [], [], _, _ => by simp only [REnts]
  | q, (k, s) :: l, e :: r, h, hh => by
    simp only [REnts, scEnts, Bool.and_eq_true] at hh h ⊢
    exact ⟨hh.1, R.cut s _ h.1 hh.2.1, hh.2.2.1, REnts.cut _ _ _ h.2 hh.2.2.2⟩
  | _, [], _ :: _, _, hh => by simp only [REnts] at hh
  | _, _ :: _, [], _, hh => by simp only [REnts] at hh

theorem scs_mem {n : Nat} : ∀ {l : List SV} {s : SV}, scs n l = true → s ∈ l → sc n s = true
  | [], _, _, h => by simp at h
  | v :: l, s, h, hm => by
    simp only [scs, Bool.and_eq_true] at h
    rcases List.mem_cons.1 hm with rfl | hm
    · exact h.1
    · exact scs_mem h.2 hm

theorem bwk_sat {ρ : Env} {n i : Nat} {w : World} {a b : AB} (hi : i < n) (h : bwk n a b) (hs : BSat ρ i w b) : BSat (ρ.cut n) i w a ∧ (a = .dead ∨ a.live = b.live ∨ ρ i = none) := by
  have hc := Env.cut_lt (ρ := ρ) hi
  unfold bwk at h
  split at h
  · exact ⟨trivial, .inl rfl⟩
  · obtain ⟨h0, rfl, h3⟩ := h
    obtain ⟨b, c, ar, h1, h2, h4⟩ := hs
    exact ⟨⟨b, c, ar, hc ▸ h1, h2, RL.cut _ _ h3 (RL.vwks h0 h4)⟩, .inr (.inl rfl)⟩
  · obtain ⟨hm, rfl, rfl, h4, h5⟩ := h
    refine ⟨?_, .inr (.inl rfl)⟩
    rcases hs with ⟨h1, h2⟩ | ⟨b, c, ar, h1, h2, h3, h6, h7⟩
    · exact .inl ⟨by omega, hc ▸ h2⟩
    · refine .inr ⟨b, c, ar, hc ▸ h1, h2, by omega, h6, fun k j s hk hj hf => ?_⟩
      have hsc := scs_mem (h5 k hk) (List.mem_of_getElem? hf)
      rw [h4 k hk] at hf
      obtain ⟨x, hx, hr⟩ := h7 k j s (by omega) hj hf
      exact ⟨x, hx, R.cut _ _ hsc hr⟩
  · obtain ⟨rfl, h2⟩ := h
    obtain ⟨b, c, l, h1, h3, h4⟩ := hs
    exact ⟨⟨b, c, l, hc ▸ h1, h3, REnts.cut _ _ _ h2 h4⟩, .inr (.inl rfl)⟩
  · obtain ⟨⟨rfl, rfl, rfl⟩, h2⟩ := h
    obtain ⟨c, t, h1, h3, h4⟩ := hs
    exact ⟨⟨c, t, hc ▸ h1, h3, RL.cut _ _ h2 h4⟩, .inr (.inl rfl)⟩
  · subst h
    have hs' : ρ i = none := hs
    exact ⟨.inl ⟨rfl, hc ▸ hs'⟩, .inr (.inr hs')⟩
  · exact h.elim

/-- The heap is cut, and some of what is known forgotten. -/
theorem Sat.narrow {g : G} {ρ : Env} {H H' : List AB} {w : World} (h : Sat g ρ H w) (hk : hwk H'.length H' H) : Sat g (ρ.cut H'.length) H' w := by
  obtain ⟨hlen, hget⟩ := hwk_get hk
  have lt : ∀ (i : Nat) (ab' : AB), H'[i]? = some ab' → i < H'.length := by
    intro i ab' hi
    rcases Nat.lt_or_ge i H'.length with q | q
    · exact q
    · rw [List.getElem?_eq_none q] at hi; cases hi
  have back : ∀ (i : Nat) (ab' : AB) b c, H'[i]? = some ab' → ab'.live = true → (ρ.cut H'.length) i = some (b, c) → ∃ ab, H[i]? = some ab ∧ ab.live = true ∧ ρ i = some (b, c) := by
    intro i ab' b c hi hv hr
    obtain ⟨ab, ha, hb⟩ := hget i ab' hi
    have hsat := bwk_sat (lt i ab' hi) hb (h.blk i ab ha)
    rw [Env.cut_lt (lt i ab' hi)] at hr
    rcases hsat.2 with rfl | e | e
    · cases hv
    · exact ⟨ab, ha, e ▸ hv, hr⟩
    · rw [e] at hr; cases hr
  refine ⟨h.os, h.tape, h.output, h.size, h.keep, ?_, ?_, ?_, ?_, ?_, ?_⟩
  · intro i ab' hi
    obtain ⟨ab, ha, hb⟩ := hget i ab' hi
    exact (bwk_sat (lt i ab' hi) hb (h.blk i ab ha)).1
  · intro i ab' b c hi hv hr
    obtain ⟨ab, ha, hv', hr'⟩ := back i ab' b c hi hv hr
    exact h.own i ab b c ha hv' hr'
  · intro i ab' b c hi hv hr
    obtain ⟨ab, ha, hv', hr'⟩ := back i ab' b c hi hv hr
    exact h.lt i ab b c ha hv' hr'
  · intro i j ai aj b c d hi hj hvi hvj hri hrj
    obtain ⟨a1, p1, p2, p3⟩ := back i ai b c hi hvi hri
    obtain ⟨a2, q1, q2, q3⟩ := back j aj b d hj hvj hrj
    exact h.inj i j a1 a2 b c d p1 q1 p2 q2 p3 q3
  · intro i hi
    simp [Env.cut, Nat.not_lt.2 hi]
  · intro a v e
    refine ⟨(h.ro a v e).1, (h.ro a v e).2.1, fun i ab' b c hi hv hr => ?_⟩
    obtain ⟨ab, ha, hv', hr'⟩ := back i ab' b c hi hv hr
    exact (h.ro a v e).2.2 i ab b c ha hv' hr'

/-- One list of slots gives another one: what is junk is forgotten. -/
def wk : List SV → List SV → Prop
  | [], [] => True
  | .junk :: l, _ :: r => wk l r
  | s :: l, v :: r => s = v ∧ wk l r
  | _, _ => False

theorem RL.wk {ρ : Env} : ∀ {l r : List SV} {vs : List Value}, Eng.wk l r → RL ρ r vs → RL ρ l vs
  | [], [], vs, _, h => h
  | .junk :: l, s :: r, [], _, h => by simp only [RL] at h
  | .junk :: l, s :: r, v :: vs, hw, h => by
    simp only [RL, Eng.wk] at h hw ⊢
    exact ⟨by simp only [R], RL.wk hw h.2⟩
  | s :: l, v :: r, vs, hw, h => by
    cases vs with
    | nil => simp only [RL] at h
    | cons x vs =>
      by_cases hj : s = .junk
      · subst hj
        simp only [RL, Eng.wk] at h hw ⊢
        exact ⟨by simp only [R], RL.wk hw h.2⟩
      · have hw' : s = v ∧ Eng.wk l r := by
          cases s <;> first | exact absurd rfl hj | exact hw
        simp only [RL] at h ⊢
        exact ⟨hw'.1 ▸ h.1, RL.wk hw'.2 h.2⟩
  | [], _ :: _, _, hw, _ => by simp [Eng.wk] at hw
  | _ :: _, [], _, hw, _ => by cases ‹SV› <;> simp [Eng.wk] at hw

end Go.Proofs.Ytmnpnnegnlhemaa.Eng
