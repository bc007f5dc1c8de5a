/- The engine's renaming of blocks at a loop's head and at a function's end. Plain lemmas; no statement of the seat. -/
import Derived.Test.YtmnpnnegnlhemaaEr
namespace Go.Proofs.Ytmnpnnegnlhemaa.Eng
open Go

theorem hget_eq : ∀ (H : List AB) (i : Nat), hget H i = (H[i]?).getD .dead
  | [], _ => by simp [hget]
  | a :: _, 0 => by simp [hget]
  | _ :: l, n + 1 => by simp [hget, hget_eq l n]

/-- Where an old index lies now (the last place). -/
def posG (j : Nat) : List Nat → Nat → Option Nat
  | [], _ => none
  | i :: l, k => match posG j l (k + 1) with
    | some r => some r
    | none => match decide (i = j) with
      | true => some k
      | false => none

def memB (j : Nat) : List Nat → Bool
  | [] => false
  | i :: l => match decide (i = j) with
    | true => true
    | false => memB j l

theorem posG_spec {j : Nat} : ∀ {l : List Nat} {k r : Nat}, posG j l k = some r → k ≤ r ∧ l[r - k]? = some j
  | [], _, _, h => by simp [posG] at h
  | i :: l, k, r, h => by
    simp only [posG] at h
    split at h
    · rename_i r' e
      cases h
      obtain ⟨h1, h2⟩ := posG_spec e
      refine ⟨by omega, ?_⟩
      rw [show r - k = (r - (k + 1)) + 1 by omega]
      simpa using h2
    · split at h
      · rename_i e
        cases h
        simp at e
        simp [e]
      · cases h

theorem memB_spec {j : Nat} : ∀ {l : List Nat}, memB j l = false → j ∉ l
  | [], _ => by simp
  | i :: l, h => by
    simp only [memB] at h
    split at h
    · cases h
    · rename_i e
      simp at e
      simp only [List.mem_cons, not_or]
      exact ⟨fun q => e q.symm, memB_spec h⟩

def jp (q : Option Nat) (f : Nat → SV) : SV := match q with
  | some k => f k
  | none => .junk

mutual
def renJ (σ : List Nat) : SV → SV
  | .junk => .junk
  | .raw v => .raw v
  | .opt g v => .opt g (renJ σ v)
  | .ptr i o => jp (posG i σ 0) fun k => .ptr k o
  | .pel i sz k j => jp (posG i σ 0) fun r => .pel r sz k j
  | .lst i sz off len => jp (posG i σ 0) fun r => .lst r sz off len
  | .mapv i => jp (posG i σ 0) fun r => .mapv r
  | .fn f a b => .fn f (renJs σ a) (renJs σ b)
  | .agg l => .agg (renJs σ l)
  | .tup l => .tup (renJs σ l)
def renJs (σ : List Nat) : List SV → List SV
  | [] => []
  | s :: l => renJ σ s :: renJs σ l
end

def Env.mv (ρ : Env) (σ : List Nat) : Env := fun i => match σ[i]? with
  | some j => ρ j
  | none => none

theorem mv_pos {ρ : Env} {σ : List Nat} {i k : Nat} (h : posG i σ 0 = some k) : (ρ.mv σ) k = ρ i := by
  have := (posG_spec h).2
  simp only [Nat.sub_zero] at this
  unfold Env.mv
  rw [this]

mutual
theorem R_renJ (ρ : Env) (σ : List Nat) : ∀ (s : SV) (x : Value), R ρ s x → R (ρ.mv σ) (renJ σ s) x
  | .junk, _, _ => by simp only [renJ, R]
  | .raw v, _, h => by simpa only [renJ, R] using h
  | .opt g v, x, h => by
    simp only [renJ, R] at h ⊢
    exact ⟨fun hg => R_renJ ρ σ v x (h.1 hg), h.2⟩
  | .ptr i o, x, h => by
    simp only [renJ]
    cases e : posG i σ 0 with
    | none => simp only [jp, R]
    | some k => simp only [jp, R] at h ⊢; rw [mv_pos e]; exact h
  | .pel i sz k j, x, h => by
    simp only [renJ]
    cases e : posG i σ 0 with
    | none => simp only [jp, R]
    | some r => simp only [jp, R] at h ⊢; rw [mv_pos e]; exact h
  | .lst i sz off len, x, h => by
    simp only [renJ]
    cases e : posG i σ 0 with
    | none => simp only [jp, R]
    | some r => simp only [jp, R] at h ⊢; rw [mv_pos e]; exact h
  | .mapv i, x, h => by
    simp only [renJ]
    cases e : posG i σ 0 with
    | none => simp only [jp, R]
    | some r => simp only [jp, R] at h ⊢; rw [mv_pos e]; exact h
  | .fn f a b, x, h => by
    simp only [renJ, R] at h ⊢
    obtain ⟨u, v, h1, h2, h3⟩ := h
    exact ⟨u, v, h1, RL_renJ ρ σ a _ h2, RL_renJ ρ σ b _ h3⟩
  | .agg l, x, h => by
    simp only [renJ, R] at h ⊢
    obtain ⟨u, h1, h2⟩ := h
    exact ⟨u, h1, RL_renJ ρ σ l _ h2⟩
  | .tup l, x, h => by
    simp only [renJ, R] at h ⊢
    obtain ⟨u, h1, h2⟩ := h
    exact ⟨u, h1, RL_renJ ρ σ l _ h2⟩
theorem RL_renJ (ρ : Env) (σ : List Nat) : ∀ (l : List SV) (r : List Value), RL ρ l r → RL (ρ.mv σ) (renJs σ l) r
  | [], [], _ => by simp only [renJs, RL]
  | s :: l, v :: r, h => by
    simp only [renJs, RL] at h ⊢
    exact ⟨R_renJ ρ σ s v h.1, RL_renJ ρ σ l r h.2⟩
  | [], _ :: _, h => by simp only [RL] at h
  | _ :: _, [], h => by simp only [RL] at h
end

def renJEnts (σ : List Nat) : List (Value × SV) → List (Value × SV)
  | [] => []
  | (k, s) :: l => (k, renJ σ s) :: renJEnts σ l

theorem renJEnts_length (σ : List Nat) : ∀ l, (renJEnts σ l).length = l.length
  | [] => rfl
  | (_, _) :: l => by simp [renJEnts, renJEnts_length σ l]

theorem REnts_renJ (ρ : Env) (σ : List Nat) : ∀ (q : Nat) (l : List (Value × SV)) (r : List MapEntry), REnts ρ q l r → REnts (ρ.mv σ) q (renJEnts σ l) r
  | _, [], [], _ => by simp only [renJEnts, REnts]
  | q, (k, s) :: l, e :: r, h => by
    simp only [renJEnts, REnts] at h ⊢
    exact ⟨h.1, R_renJ ρ σ s _ h.2.1, h.2.2.1, REnts_renJ ρ σ (q + 1) l r h.2.2.2⟩
  | _, [], _ :: _, h => by simp only [REnts] at h
  | _, (_, _) :: _, [], h => by simp only [REnts] at h

theorem renJs_get (σ : List Nat) : ∀ (l : List SV) (j : Nat), (renJs σ l)[j]? = (l[j]?).map (renJ σ)
  | [], _ => by simp [renJs]
  | s :: l, 0 => by simp [renJs]
  | s :: l, j + 1 => by simp [renJs, renJs_get σ l j]

def renJB (σ : List Nat) : AB → AB
  | .dead => .dead
  | .hole => .hole
  | .cells cs t => .cells (renJs σ cs) t
  | .lst n sz f t => .lst n sz (fun k => renJs σ (f k)) t
  | .map es => .map (renJEnts σ es)
  | .lrec b τ l => .lrec b (renJs σ τ) l

theorem BSat_renJ {ρ : Env} {σ : List Nat} {i j : Nat} {w : World} (hij : (ρ.mv σ) i = ρ j) : ∀ {a : AB}, BSat ρ j w a → BSat (ρ.mv σ) i w (renJB σ a) := by
  intro a h
  cases a with
  | dead => trivial
  | hole => exact hij.trans h
  | cells cs t =>
    obtain ⟨b, c, ar, h1, h2, h3⟩ := h
    exact ⟨b, c, ar, hij.trans h1, h2, RL_renJ ρ σ _ _ h3⟩
  | lst n sz f t =>
    rcases h with ⟨h1, h2⟩ | ⟨b, c, ar, h1, h2, h3, h4, h5⟩
    · exact .inl ⟨h1, hij.trans h2⟩
    · refine .inr ⟨b, c, ar, hij.trans h1, h2, h3, h4, fun k q s hk hq hf => ?_⟩
      rw [renJs_get] at hf
      cases he : (f k)[q]? with
      | none => rw [he] at hf; cases hf
      | some s' =>
        rw [he] at hf
        cases hf
        obtain ⟨x, hx, hr⟩ := h5 k q s' hk hq he
        exact ⟨x, hx, R_renJ ρ σ _ _ hr⟩
  | map es =>
    obtain ⟨b, c, l, h1, h2, h3⟩ := h
    exact ⟨b, c, l, hij.trans h1, by rw [renJEnts_length]; exact h2, REnts_renJ ρ σ _ _ _ h3⟩
  | lrec b τ l =>
    obtain ⟨c, t, h1, h2, h3⟩ := h
    exact ⟨c, t, hij.trans h1, h2, RL_renJ ρ σ _ _ h3⟩

theorem renJB_live {σ : List Nat} {a : AB} : (renJB σ a).live = a.live := by cases a <;> rfl

def hgetO : List AB → Nat → AB
  | [], _ => .hole
  | a :: _, 0 => a
  | _ :: l, n + 1 => hgetO l n

theorem hgetO_eq : ∀ (H : List AB) (i : Nat), hgetO H i = (H[i]?).getD .hole
  | [], _ => by simp [hgetO]
  | a :: _, 0 => by simp [hgetO]
  | _ :: l, n + 1 => by simp [hgetO, hgetO_eq l n]

def mvH (h : List AB) (σ : List Nat) : List Nat → List AB
  | [] => []
  | i :: l => (match memB i l with | true => .dead | false => renJB σ (hgetO h i)) :: mvH h σ l

theorem mvH_get {h : List AB} {σ : List Nat} : ∀ {l : List Nat} {k : Nat} {ab : AB}, (mvH h σ l)[k]? = some ab → ∃ i, l[k]? = some i ∧ (ab = .dead ∨ (ab = renJB σ (hgetO h i) ∧ i ∉ l.drop (k + 1)))
  | [], _, _, e => by simp [mvH] at e
  | i :: l, 0, ab, e => by
    simp only [mvH, List.getElem?_cons_zero, Option.some.injEq] at e
    refine ⟨i, by simp, ?_⟩
    cases hm : memB i l with
    | true => rw [hm] at e; exact .inl e.symm
    | false => rw [hm] at e; exact .inr ⟨e.symm, by simpa using memB_spec hm⟩
  | i :: l, k + 1, ab, e => by
    simp only [mvH, List.getElem?_cons_succ] at e
    simpa using mvH_get e

theorem mvH_length {h : List AB} {σ : List Nat} : ∀ {l : List Nat}, (mvH h σ l).length = l.length
  | [] => rfl
  | _ :: l => by simp [mvH, mvH_length (l := l)]

theorem mvH_live {h : List AB} {σ l : List Nat} {k : Nat} {ab : AB} (e : (mvH h σ l)[k]? = some ab) (hv : ab.live = true) : ∃ i a, l[k]? = some i ∧ h[i]? = some a ∧ a.live = true ∧ ab = renJB σ a ∧ i ∉ l.drop (k + 1) := by
  obtain ⟨i, h1, h2 | ⟨h2, h3⟩⟩ := mvH_get e
  · subst h2; cases hv
  · have hv' : (hgetO h i).live = true := by rw [h2, renJB_live] at hv; exact hv
    have hg : h[i]? = some (hgetO h i) := by
      rw [hgetO_eq] at hv' ⊢
      cases hh : h[i]? with
      | none => rw [hh] at hv'; cases hv'
      | some a => rfl
    exact ⟨i, _, h1, hg, hv', h2, h3⟩

theorem Sat.mv {g : G} {ρ : Env} {h : List AB} {w : World} (hs : Sat g ρ h w) (σ : List Nat) : Sat g (ρ.mv σ) (mvH h σ σ) w := by
  have at' : ∀ {k i : Nat}, σ[k]? = some i → (ρ.mv σ) k = ρ i := fun e => by simp [Env.mv, e]
  refine ⟨hs.os, hs.tape, hs.output, hs.size, hs.keep, ?_, ?_, ?_, ?_, ?_, ?_⟩
  · intro k ab e
    obtain ⟨i, h1, rfl | ⟨rfl, _⟩⟩ := mvH_get e
    · trivial
    · rw [hgetO_eq]
      cases hh : h[i]? with
      | none =>
        show (ρ.mv σ) k = none
        rw [at' h1]
        refine hs.out i ?_
        rcases Nat.lt_or_ge i h.length with q | q
        · rw [List.getElem?_eq_getElem q] at hh; cases hh
        · exact q
      | some a => exact BSat_renJ (at' h1) (hs.blk i a hh)
  · intro k ab b c e hv hr
    obtain ⟨i, a, h1, h2, h3, _, _⟩ := mvH_live e hv
    rw [at' h1] at hr
    exact hs.own i a b c h2 h3 hr
  · intro k ab b c e hv hr
    obtain ⟨i, a, h1, h2, h3, _, _⟩ := mvH_live e hv
    rw [at' h1] at hr
    exact hs.lt i a b c h2 h3 hr
  · intro k k' ab ab' b c d e e' hv hv' hr hr'
    obtain ⟨i, a, h1, h2, h3, _, h4⟩ := mvH_live e hv
    obtain ⟨i', a', k1, k2, k3, _, k4⟩ := mvH_live e' hv'
    rw [at' h1] at hr
    rw [at' k1] at hr'
    have hi := hs.inj i i' a a' b c d h2 k2 h3 k3 hr hr'
    subst hi
    rcases Nat.lt_trichotomy k k' with q | q | q
    · exfalso; apply h4; rw [List.mem_iff_getElem?]; exact ⟨k' - (k + 1), by rw [List.getElem?_drop]; rw [show k + 1 + (k' - (k + 1)) = k' by omega]; exact k1⟩
    · exact q
    · exfalso; apply k4; rw [List.mem_iff_getElem?]; exact ⟨k - (k' + 1), by rw [List.getElem?_drop]; rw [show k' + 1 + (k - (k' + 1)) = k by omega]; exact h1⟩
  · intro k hk
    rw [mvH_length] at hk
    simp [Env.mv, List.getElem?_eq_none hk]
  · intro a v e
    refine ⟨(hs.ro a v e).1, (hs.ro a v e).2.1, fun k ab b c e' hv hr => ?_⟩
    obtain ⟨i, a', h1, h2, h3, _, _⟩ := mvH_live e' hv
    rw [at' h1] at hr
    exact (hs.ro a v e).2.2 i a' b c h2 h3 hr

theorem Spare.mv {g : G} {ρ : Env} {h : List AB} {w : World} {d : Nat} (hs : Spare g ρ h w d) (σ : List Nat) : Spare g (ρ.mv σ) (mvH h σ σ) w d := by
  refine ⟨hs.size, hs.lt, fun k ab b c e hv hr => ?_, hs.ro⟩
  obtain ⟨i, a, h1, h2, h3, _, _⟩ := mvH_live e hv
  have : (ρ.mv σ) k = ρ i := by simp [Env.mv, h1]
  rw [this] at hr
  exact hs.free i a b c h2 h3 hr

theorem Spare.narrow {g : G} {ρ : Env} {H H' : List AB} {w : World} {d : Nat} (h : Spare g ρ H w d) (hs : Sat g ρ H w) (hk : hwk H'.length H' H) : Spare g (ρ.cut H'.length) H' w d := by
  obtain ⟨_, hget⟩ := hwk_get hk
  refine ⟨h.size, h.lt, fun i ab' b c hi hv hr => ?_, h.ro⟩
  have hi' : i < H'.length := by
    rcases Nat.lt_or_ge i H'.length with q | q
    · exact q
    · rw [List.getElem?_eq_none q] at hi; cases hi
  rw [Env.cut_lt hi'] at hr
  obtain ⟨ab, ha, hb⟩ := hget i ab' hi
  rcases (bwk_sat hi' hb (hs.blk i ab ha)).2 with rfl | e | e
  · cases hv
  · exact h.free i ab b c ha (e ▸ hv) hr
  · rw [e] at hr; cases hr

theorem mv_le {ρ0 ρ : Env} {N : Nat} {σ : List Nat} (hN : ∀ i, N ≤ i → ρ0 i = none) (hle : Env.le ρ0 ρ) (hσ : σ.take N = List.range N) : Env.le ρ0 (ρ.mv σ) := by
  intro i x e
  have hi : i < N := by
    rcases Nat.lt_or_ge i N with q | q
    · exact q
    · rw [hN i q] at e; cases e
  have : σ[i]? = some i := by
    have h1 : (σ.take N)[i]? = some i := by rw [hσ]; simp [hi]
    rw [List.getElem?_take] at h1
    simpa [hi] using h1
  show (match σ[i]? with | some j => ρ j | none => none) = some x
  rw [this]
  exact hle i x e

end Go.Proofs.Ytmnpnnegnlhemaa.Eng
