/- The engine's frame rule: what is proved of a function over the blocks that it touches holds over every heap that has them. Plain lemmas; no statement of the seat. -/
import Derived.Test.YtmnpnnegnlhemaaEo
namespace Go.Proofs.Ytmnpnnegnlhemaa.Eng
open Go

mutual
def ren (σ : Nat → Nat) : SV → SV
  | .junk => .junk
  | .raw v => .raw v
  | .opt g v => .opt g (ren σ v)
  | .ptr i o => .ptr (σ i) o
  | .pel i sz k j => .pel (σ i) sz k j
  | .lst i sz off len => .lst (σ i) sz off len
  | .mapv i => .mapv (σ i)
  | .fn f a b => .fn f (rens σ a) (rens σ b)
  | .agg l => .agg (rens σ l)
  | .tup l => .tup (rens σ l)
def rens (σ : Nat → Nat) : List SV → List SV
  | [] => []
  | s :: l => ren σ s :: rens σ l
end

def Env.via (ρ : Env) (σ : Nat → Nat) : Env := fun i => ρ (σ i)

mutual
theorem R_ren (ρ : Env) (σ : Nat → Nat) : ∀ (s : SV) (x : Value), R ρ (ren σ s) x ↔ R (ρ.via σ) s x
  | .junk, _ => by simp only [ren, R]
  | .raw v, _ => by simp only [ren, R]
  | .opt g v, x => by simp only [ren, R, R_ren ρ σ v x]
  | .ptr i o, _ => by simp only [ren, R, Env.via]
  | .pel i sz k j, _ => by simp only [ren, R, Env.via]
  | .lst i sz off len, _ => by simp only [ren, R, Env.via]
  | .mapv i, _ => by simp only [ren, R, Env.via]
  | .fn f a b, _ => by simp only [ren, R, RL_ren ρ σ a, RL_ren ρ σ b]
  | .agg l, _ => by simp only [ren, R, RL_ren ρ σ l]
  | .tup l, _ => by simp only [ren, R, RL_ren ρ σ l]
theorem RL_ren (ρ : Env) (σ : Nat → Nat) : ∀ (l : List SV) (r : List Value), RL ρ (rens σ l) r ↔ RL (ρ.via σ) l r
  | [], [] => by simp only [rens, RL]
  | s :: l, v :: r => by simp only [rens, RL, R_ren ρ σ s v, RL_ren ρ σ l r]
  | [], _ :: _ => by simp only [rens, RL]
  | _ :: _, [] => by simp only [rens, RL]
end

def renEnts (σ : Nat → Nat) : List (Value × SV) → List (Value × SV)
  | [] => []
  | (k, s) :: l => (k, ren σ s) :: renEnts σ l

theorem renEnts_length (σ : Nat → Nat) : ∀ l, (renEnts σ l).length = l.length
  | [] => rfl
  | (_, _) :: l => by simp [renEnts, renEnts_length σ l]

theorem REnts_ren (ρ : Env) (σ : Nat → Nat) : ∀ (q : Nat) (l : List (Value × SV)) (r : List MapEntry), REnts ρ q (renEnts σ l) r ↔ REnts (ρ.via σ) q l r
  | _, [], [] => by simp only [renEnts, REnts]
  | q, (k, s) :: l, e :: r => by simp only [renEnts, REnts, R_ren ρ σ s, REnts_ren ρ σ (q + 1) l r]
  | _, [], _ :: _ => by simp only [renEnts, REnts]
  | _, (_, _) :: _, [] => by simp only [renEnts, REnts]

theorem rens_get (σ : Nat → Nat) : ∀ (l : List SV) (j : Nat), (rens σ l)[j]? = (l[j]?).map (ren σ)
  | [], _ => by simp [rens]
  | s :: l, 0 => by simp [rens]
  | s :: l, j + 1 => by simp [rens, rens_get σ l j]

def renB (σ : Nat → Nat) : AB → AB
  | .dead => .dead
  | .hole => .hole
  | .cells cs t => .cells (rens σ cs) t
  | .lst n sz f t => .lst n sz (fun k => rens σ (f k)) t
  | .map es => .map (renEnts σ es)
  | .lrec b τ l => .lrec b (rens σ τ) l

theorem renB_live (σ : Nat → Nat) (a : AB) : (renB σ a).live = a.live := by cases a <;> rfl

theorem BSat_ren (ρ : Env) (σ : Nat → Nat) (i : Nat) (w : World) (a : AB) : BSat ρ (σ i) w (renB σ a) ↔ BSat (ρ.via σ) i w a := by
  cases a with
  | dead => exact Iff.rfl
  | hole => exact Iff.rfl
  | cells cs t => simp only [renB, BSat, Env.via, RL_ren]
  | lst n sz f t =>
    simp only [renB, BSat, Env.via]
    refine or_congr Iff.rfl ?_
    refine exists_congr fun b => exists_congr fun c => exists_congr fun ar => and_congr Iff.rfl (and_congr Iff.rfl (and_congr Iff.rfl (and_congr Iff.rfl ?_)))
    constructor
    · intro h k j s hk hj hf
      obtain ⟨x, hx, hr⟩ := h k j (ren σ s) hk hj (by rw [rens_get, hf]; rfl)
      exact ⟨x, hx, (R_ren ρ σ s x).1 hr⟩
    · intro h k j s hk hj hf
      rw [rens_get] at hf
      cases hq : (f k)[j]? with
      | none => rw [hq] at hf; cases hf
      | some s' =>
        rw [hq] at hf
        cases hf
        obtain ⟨x, hx, hr⟩ := h k j s' hk hj hq
        exact ⟨x, hx, (R_ren ρ σ s' x).2 hr⟩
  | map es => simp only [renB, BSat, Env.via, REnts_ren, renEnts_length]
  | lrec b τ l => simp only [renB, BSat, Env.via, RL_ren]

/-- Where the blocks of a small heap lie in a great one; what is new goes behind all. -/
def sig (σ : List Nat) (n : Nat) (j : Nat) : Nat := (σ[j]?).getD (n + (j - σ.length))

theorem sig_lt {σ : List Nat} {n j : Nat} (h : j < σ.length) : sig σ n j = σ[j] := by simp [sig, h]
theorem sig_ge {σ : List Nat} {n j : Nat} (h : σ.length ≤ j) : sig σ n j = n + (j - σ.length) := by simp [sig, h]

def subH (τ : Nat → Nat) (H : List AB) : List Nat → List AB → Prop
  | [], [] => True
  | i :: σ, a :: l => (i < H.length ∧ hget H i = renB τ a) ∧ subH τ H σ l
  | _, _ => False

def updH (τ : Nat → Nat) : List AB → List Nat → List AB → List AB
  | H, [], l => H ++ l.map (renB τ)
  | H, _ :: _, [] => H
  | H, i :: σ, a :: l => updH τ (hset H i (renB τ a)) σ l

theorem subH_get {τ : Nat → Nat} {H : List AB} : ∀ {σ : List Nat} {l : List AB}, subH τ H σ l → σ.length = l.length ∧ ∀ (j : Nat) (h1 : j < σ.length) (h2 : j < l.length), H[σ[j]]? = some (renB τ l[j])
  | [], [], _ => ⟨rfl, fun j h1 => by simp at h1⟩
  | [], _ :: _, h => by simp [subH] at h
  | _ :: _, [], h => by simp [subH] at h
  | i :: σ, a :: l, h => by
    simp only [subH] at h
    obtain ⟨⟨h1, h2⟩, h3⟩ := h
    obtain ⟨h4, h5⟩ := subH_get h3
    refine ⟨by simp [h4], fun j k1 k2 => ?_⟩
    cases j with
    | zero =>
      simp only [List.getElem_cons_zero]
      rw [hget_eq] at h2
      rw [List.getElem?_eq_getElem h1] at h2 ⊢
      simpa using h2
    | succ j => simpa using h5 j (by simpa using k1) (by simpa using k2)

theorem updH_get {τ : Nat → Nat} : ∀ (σ : List Nat) (H l : List AB), σ.length ≤ l.length → (∀ i ∈ σ, i < H.length) → σ.Nodup →
    (updH τ H σ l).length = H.length + (l.length - σ.length) ∧
    (∀ (j : Nat) (h1 : j < σ.length) (h2 : j < l.length), (updH τ H σ l)[σ[j]]? = some (renB τ l[j])) ∧
    (∀ i, i < H.length → i ∉ σ → (updH τ H σ l)[i]? = H[i]?) ∧
    (∀ j, σ.length ≤ j → (updH τ H σ l)[H.length + (j - σ.length)]? = (l[j]?).map (renB τ))
  | [], H, l, _, _, _ => by
    refine ⟨by simp [updH], fun j h1 => by simp at h1, fun i hi _ => ?_, fun j _ => ?_⟩
    · simp [updH, List.getElem?_append_left hi]
    · simp only [updH, List.length_nil, Nat.sub_zero]
      rw [List.getElem?_append_right (by omega)]
      simp
  | i :: σ, H, [], h, _, _ => by simp at h
  | i :: σ, H, a :: l, h, hlt, hnd => by
    simp only [List.nodup_cons] at hnd
    have hil : i < H.length := hlt i (by simp)
    obtain ⟨g1, g2, g3, g4⟩ := updH_get σ (hset H i (renB τ a)) l (by simpa using h) (fun k hk => by rw [hset_eq]; simpa using hlt k (by simp [hk])) hnd.2
    simp only [hset_eq, List.length_set] at g1 g2 g3 g4
    simp only [updH, hset_eq]
    refine ⟨by rw [g1]; simp, fun j h1 h2 => ?_, fun k hk hm => ?_, fun j hj => ?_⟩
    · cases j with
      | zero =>
        simp only [List.getElem_cons_zero]
        rw [g3 i hil hnd.1]
        simp [hil]
      | succ j => simpa using g2 j (by simpa using h1) (by simpa using h2)
    · simp only [List.mem_cons, not_or] at hm
      rw [g3 k hk hm.2, List.getElem?_set_ne (Ne.symm hm.1)]
    · cases j with
      | zero => simp at hj
      | succ j =>
        have := g4 j (by simpa using hj)
        simpa using this

theorem idxOf_at : ∀ {σ : List Nat} (_ : σ.Nodup) {j : Nat} (hj : j < σ.length), σ.idxOf σ[j] = j
  | [], _, j, hj => by simp at hj
  | a :: σ, hn, 0, _ => by simp
  | a :: σ, hn, j + 1, hj => by
    simp only [List.nodup_cons] at hn
    have hj' : j < σ.length := by simpa using hj
    have hne : a ≠ σ[j] := fun e => hn.1 (e ▸ List.getElem_mem hj')
    simp only [List.getElem_cons_succ, List.idxOf_cons]
    have : (a == σ[j]) = false := by simpa using hne
    simp [this, idxOf_at hn.2 hj']

theorem Env.via_cut_le {ρ ρ' : Env} {σ : Nat → Nat} {n : Nat} (h : ∀ i, i < n → ρ' (σ i) = ρ (σ i)) : (ρ'.via σ).cut n = (ρ.via σ).cut n := by
  funext i
  unfold Env.cut Env.via
  split
  · rename_i hi; exact h i hi
  · rfl

/-- **The frame rule.** -/
theorem Ok.frame {P : Program} {E : Addr → Option Value} {f : FuncId} {args0 : List SV} {H0 : List AB} {v0 : SV} {H1 : List AB} (h : Ok P E f args0 H0 v0 H1) (H : List AB) (σ : List Nat)
    (hsub : subH (sig σ H.length) H σ H0) (hnd : σ.Nodup) (ha : scs H0.length args0 = true) (hb : hwk H0.length H0 H0) :
    Ok P E f (rens (sig σ H.length) args0) H (ren (sig σ H.length) v0) (updH (sig σ H.length) H σ H1) := by
  obtain ⟨hbody, hlen, hok⟩ := h
  obtain ⟨hσl, hget⟩ := subH_get hsub
  have hσlt : ∀ i ∈ σ, i < H.length := by
    intro i hi
    obtain ⟨j, hj, rfl⟩ := List.getElem_of_mem hi
    have := hget j hj (by omega)
    rcases Nat.lt_or_ge σ[j] H.length with q | q
    · exact q
    · rw [List.getElem?_eq_none q] at this; cases this
  obtain ⟨u1, u2, u3, u4⟩ := updH_get (τ := sig σ H.length) σ H H1 (by omega) hσlt hnd
  refine ⟨hbody, by rw [u1]; omega, ?_⟩
  intro g ρ w vargs hE hs hr
  -- the small heap
  have hn0 : σ.length = H0.length := hσl
  have hsigInj : ∀ i j, i < σ.length → j < σ.length → sig σ H.length i = sig σ H.length j → i = j := by
    intro i j hi hj e
    rw [sig_lt hi, sig_lt hj] at e
    exact (List.getElem_inj hnd).1 e
  have hglob : ∀ j ab, H0[j]? = some ab → H[sig σ H.length j]? = some (renB (sig σ H.length) ab) := by
    intro j ab hj
    have hj' : j < H0.length := (List.getElem?_eq_some_iff.1 hj).1
    rw [sig_lt (by omega), hget j (by omega) hj']
    congr 2
    exact (List.getElem?_eq_some_iff.1 hj).2
  have hcut : ∀ j, j < H0.length → ((ρ.via (sig σ H.length)).cut H0.length) j = ρ (sig σ H.length j) := fun j hj => by
    rw [Env.cut_lt hj]; rfl
  have hout0 : ∀ j, H0.length ≤ j → ((ρ.via (sig σ H.length)).cut H0.length) j = none := fun j hj => by simp [Env.cut, Nat.not_lt.2 hj]
  have hlt0 : ∀ j ab, H0[j]? = some ab → j < H0.length := fun j ab hj => (List.getElem?_eq_some_iff.1 hj).1
  have hA0 : ∀ b, (∃ j ab c, H0[j]? = some ab ∧ ab.live = true ∧ ρ (sig σ H.length j) = some (b, c)) → (g.A b ∨ g.w0.heap.size ≤ b) ∧ b < w.heap.size ∧ ∃ i ab c, i ∈ σ ∧ H[i]? = some ab ∧ ab.live = true ∧ ρ i = some (b, c) := by
    rintro b ⟨j, ab, c, h1, h2, h3⟩
    have hl : (renB (sig σ H.length) ab).live = true := by rw [renB_live]; exact h2
    have hj := hlt0 j ab h1
    refine ⟨hs.own _ _ b c (hglob j ab h1) hl h3, hs.lt _ _ b c (hglob j ab h1) hl h3, _, _, c, ?_, hglob j ab h1, hl, h3⟩
    rw [sig_lt (by omega)]; exact List.getElem_mem _
  have hs0 : Sat ⟨w, fun b => ∃ j ab c, H0[j]? = some ab ∧ ab.live = true ∧ ρ (sig σ H.length j) = some (b, c), g.E⟩ ((ρ.via (sig σ H.length)).cut H0.length) H0 w := by
    refine ⟨rfl, rfl, rfl, Nat.le_refl _, fun _ _ _ => rfl, ?_, ?_, ?_, ?_, hout0, ?_⟩
    · intro j ab hj
      have hj' := hlt0 j ab hj
      have h1 := (BSat_ren ρ (sig σ H.length) j w ab).1 (hs.blk _ _ (hglob j ab hj))
      obtain ⟨ab', hab, hbw⟩ := (hwk_get hb).2 j ab hj
      rw [hj] at hab; cases hab
      exact (bwk_sat hj' hbw h1).1
    · intro j ab b c hj hv hr'
      rw [hcut j (hlt0 j ab hj)] at hr'
      exact .inl ⟨j, ab, c, hj, hv, hr'⟩
    · intro j ab b c hj hv hr'
      rw [hcut j (hlt0 j ab hj)] at hr'
      exact (hA0 b ⟨j, ab, c, hj, hv, hr'⟩).2.1
    · intro i j ai aj b c d hi hj hvi hvj hri hrj
      rw [hcut i (hlt0 i ai hi)] at hri
      rw [hcut j (hlt0 j aj hj)] at hrj
      have := hs.inj _ _ _ _ b c d (hglob i ai hi) (hglob j aj hj) (by rw [renB_live]; exact hvi) (by rw [renB_live]; exact hvj) hri hrj
      exact hsigInj i j (by rw [hn0]; exact hlt0 i ai hi) (by rw [hn0]; exact hlt0 j aj hj) this
    · intro a v e
      have := hs.ro a v e
      refine ⟨this.1, this.2.1, fun j ab b c hj hv hr' => ?_⟩
      rw [hcut j (hlt0 j ab hj)] at hr'
      exact this.2.2 _ _ b c (hglob j ab hj) (by rw [renB_live]; exact hv) hr'
  have hr0 : RL ((ρ.via (sig σ H.length)).cut H0.length) args0 vargs := RL.cut _ _ ha ((RL_ren ρ (sig σ H.length) args0 vargs).1 hr)
  refine (hok ⟨w, fun b => ∃ j ab c, H0[j]? = some ab ∧ ab.live = true ∧ ρ (sig σ H.length j) = some (b, c), g.E⟩ _ w vargs hE hs0 hr0).mono ?_
  rintro e w' ⟨ρ1, x, rfl, hle, hs1, hx⟩
  -- the great environment behind the call
  let ρ' : Env := fun i => if i ∈ σ then ρ1 (σ.idxOf i) else if H.length ≤ i then ρ1 (σ.length + (i - H.length)) else ρ i
  have hρσ : ∀ j, ρ' (sig σ H.length j) = ρ1 j := by
    intro j
    by_cases hj : j < σ.length
    · rw [sig_lt hj]
      show (if σ[j] ∈ σ then ρ1 (σ.idxOf σ[j]) else _) = _
      rw [if_pos (List.getElem_mem hj), idxOf_at hnd hj]
    · rw [sig_ge (by omega)]
      have hnm : H.length + (j - σ.length) ∉ σ := fun hm => by have := hσlt _ hm; omega
      show (if _ ∈ σ then _ else if H.length ≤ _ then ρ1 _ else _) = _
      rw [if_neg hnm, if_pos (by omega)]
      congr 1; omega
  have hvia : ρ'.via (sig σ H.length) = ρ1 := funext hρσ
  have hle' : Env.le ρ ρ' := by
    intro i y hy
    show (if i ∈ σ then ρ1 (σ.idxOf i) else if H.length ≤ i then ρ1 (σ.length + (i - H.length)) else ρ i) = some y
    by_cases hm : i ∈ σ
    · rw [if_pos hm]
      obtain ⟨j, hj, rfl⟩ := List.getElem_of_mem hm
      rw [idxOf_at hnd hj]
      refine hle j y ?_
      rw [hcut j (by omega), sig_lt hj]
      exact hy
    · rw [if_neg hm]
      by_cases hge : H.length ≤ i
      · rw [hs.out i hge] at hy; cases hy
      · rw [if_neg hge]; exact hy
  have hfar : ∀ i, i < H.length → i ∉ σ → ρ' i = ρ i := by
    intro i hi hm
    show (if i ∈ σ then ρ1 (σ.idxOf i) else if H.length ≤ i then ρ1 (σ.length + (i - H.length)) else ρ i) = _
    rw [if_neg hm, if_neg (by omega)]
  -- each entry of the great heap behind the call
  have cases' : ∀ (i : Nat) (ab : AB), (updH (sig σ H.length) H σ H1)[i]? = some ab → (∃ j a, i = sig σ H.length j ∧ H1[j]? = some a ∧ ab = renB (sig σ H.length) a) ∨ (i < H.length ∧ i ∉ σ ∧ H[i]? = some ab) := by
    intro i ab hi
    by_cases hm : i ∈ σ
    · obtain ⟨j, hj, rfl⟩ := List.getElem_of_mem hm
      rw [u2 j hj (by omega)] at hi
      cases hi
      exact .inl ⟨j, _, (sig_lt hj).symm, List.getElem?_eq_getElem (by omega), rfl⟩
    · by_cases hlt : i < H.length
      · rw [u3 i hlt hm] at hi
        exact .inr ⟨hlt, hm, hi⟩
      · have e : i = H.length + ((σ.length + (i - H.length)) - σ.length) := by omega
        rw [e, u4 _ (by omega)] at hi
        cases hq : H1[σ.length + (i - H.length)]? with
        | none => rw [hq] at hi; cases hi
        | some a =>
          rw [hq] at hi
          cases hi
          exact .inl ⟨_, a, by rw [sig_ge (by omega)]; omega, hq, rfl⟩
  have hold : ∀ i ab b c, i < H.length → i ∉ σ → H[i]? = some ab → ab.live = true → ρ i = some (b, c) → b < w.heap.size ∧ ¬ (∃ j ab c, H0[j]? = some ab ∧ ab.live = true ∧ ρ (sig σ H.length j) = some (b, c)) := by
    intro i ab b c hi hm hab hv hr'
    refine ⟨hs.lt i ab b c hab hv hr', fun hA => ?_⟩
    obtain ⟨_, _, i', ab', c', hm', h1, h2, h3⟩ := hA0 b hA
    exact hm (hs.inj i i' ab ab' b c c' hab h1 hv h2 hr' h3 ▸ hm')
  refine ⟨ρ', x, rfl, hle', ⟨hs1.os.trans hs.os, hs1.tape.trans hs.tape, hs1.output.trans hs.output, Nat.le_trans hs.size hs1.size, ?_, ?_, ?_, ?_, ?_, ?_, ?_⟩, (R_ren ρ' _ v0 x).2 (by rw [hvia]; exact hx)⟩
  · intro b hb' hnA
    have hbw : b < w.heap.size := Nat.lt_of_lt_of_le hb' hs.size
    rw [hs1.keep b hbw (fun hA => by
      rcases (hA0 b hA).1 with q | q
      · exact hnA q
      · omega)]
    exact hs.keep b hb' hnA
  · intro i ab hi
    rcases cases' i ab hi with ⟨j, a, rfl, h1, rfl⟩ | ⟨h1, h2, h3⟩
    · rw [BSat_ren, hvia]; exact hs1.blk j a h1
    · exact (hs.blk i ab h3).mono hle' (hfar i h1 h2) (fun b c hv hr' => by
        obtain ⟨q1, q2⟩ := hold i ab b c h1 h2 h3 hv hr'
        exact hs1.keep b q1 q2)
  · intro i ab b c hi hv hr'
    rcases cases' i ab hi with ⟨j, a, rfl, h1, rfl⟩ | ⟨h1, h2, h3⟩
    · rw [hρσ] at hr'
      rw [renB_live] at hv
      rcases hs1.own j a b c h1 hv hr' with q | q
      · exact (hA0 b q).1
      · exact .inr (Nat.le_trans hs.size q)
    · rw [hfar i h1 h2] at hr'; exact hs.own i ab b c h3 hv hr'
  · intro i ab b c hi hv hr'
    rcases cases' i ab hi with ⟨j, a, rfl, h1, rfl⟩ | ⟨h1, h2, h3⟩
    · rw [hρσ] at hr'
      rw [renB_live] at hv
      exact hs1.lt j a b c h1 hv hr'
    · rw [hfar i h1 h2] at hr'; exact Nat.lt_of_lt_of_le (hs.lt i ab b c h3 hv hr') hs1.size
  · intro i i' ai ai' b c d hi hi' hv hv' hr1 hr2
    rcases cases' i ai hi with ⟨j, a, rfl, h1, rfl⟩ | ⟨h1, h2, h3⟩
    · rw [hρσ] at hr1
      rw [renB_live] at hv
      rcases cases' i' ai' hi' with ⟨j', a', rfl, k1, rfl⟩ | ⟨k1, k2, k3⟩
      · rw [hρσ] at hr2
        rw [renB_live] at hv'
        rw [hs1.inj j j' a a' b c d h1 k1 hv hv' hr1 hr2]
      · rw [hfar i' k1 k2] at hr2
        obtain ⟨q1, q2⟩ := hold i' ai' b d k1 k2 k3 hv' hr2
        rcases hs1.own j a b c h1 hv hr1 with q | q
        · exact absurd q q2
        · simp only at q; omega
    · rw [hfar i h1 h2] at hr1
      obtain ⟨q1, q2⟩ := hold i ai b c h1 h2 h3 hv hr1
      rcases cases' i' ai' hi' with ⟨j', a', rfl, k1, rfl⟩ | ⟨k1, k2, k3⟩
      · rw [hρσ] at hr2
        rw [renB_live] at hv'
        rcases hs1.own j' a' b d k1 hv' hr2 with q | q
        · exact absurd q q2
        · simp only at q; omega
      · rw [hfar i' k1 k2] at hr2
        exact hs.inj i i' ai ai' b c d h3 k3 hv hv' hr1 hr2
  · intro i hi
    rw [u1] at hi
    show (if i ∈ σ then ρ1 (σ.idxOf i) else if H.length ≤ i then ρ1 (σ.length + (i - H.length)) else ρ i) = none
    rw [if_neg (fun hm => by have := hσlt i hm; omega), if_pos (by omega)]
    exact hs1.out _ (by omega)
  · intro a v e
    have h1 := hs1.ro a v e
    refine ⟨h1.1, h1.2.1, fun i ab b c hi hv hr' => ?_⟩
    rcases cases' i ab hi with ⟨j, a', rfl, k1, rfl⟩ | ⟨k1, k2, k3⟩
    · rw [hρσ] at hr'
      rw [renB_live] at hv
      exact h1.2.2 j a' b c k1 hv hr'
    · rw [hfar i k1 k2] at hr'
      exact (hs.ro a v e).2.2 i ab b c k3 hv hr'

end Go.Proofs.Ytmnpnnegnlhemaa.Eng
