/- The engine's operations: append. Plain lemmas; no statement of the seat. -/
import Derived.Test.YtmnpnnegnlhemaaEe
namespace Go.Proofs.Ytmnpnnegnlhemaa.Eng
open Go

theorem List.get_cases_push {H : List AB} {x ab' : AB} {i : Nat} (hi : (H ++ [x])[i]? = some ab') : (i = H.length ∧ ab' = x) ∨ (i < H.length ∧ H[i]? = some ab') := by
  rcases Nat.lt_trichotomy i H.length with k | k | k
  · rw [List.getElem?_append_left k] at hi
    exact .inr ⟨k, hi⟩
  · subst k
    simp at hi
    exact .inl ⟨rfl, hi.symm⟩
  · rw [List.getElem?_eq_none (by simp; omega)] at hi
    cases hi

/-- A block goes over to a new index. -/
theorem Sat.move {g : G} {ρ : Env} {H : List AB} {w : World} (h : Sat g ρ H w) {i b : Nat} {c c' : Nat × Nat} {ab ab' : AB}
    (hi : H[i]? = some ab) (hv : ab.live = true) (hr : ρ i = some (b, c)) (hb : BSat (ρ.ext H.length (b, c')) H.length w ab') :
    Sat g (ρ.ext H.length (b, c')) (H.set i .dead ++ [ab']) w := by
  have hn := h.out H.length (Nat.le_refl _)
  have hle : Env.le ρ (ρ.ext H.length (b, c')) := Env.le_ext hn
  have hat : (ρ.ext H.length (b, c')) H.length = some (b, c') := by simp [Env.ext]
  have hoth : ∀ j, j ≠ H.length → (ρ.ext H.length (b, c')) j = ρ j := fun j hj => by simp [Env.ext, hj]
  have cases' : ∀ (j : Nat) (aj : AB), (H.set i .dead ++ [ab'])[j]? = some aj → aj.live = true →
      (j = H.length ∧ aj = ab') ∨ (j ≠ i ∧ j ≠ H.length ∧ H[j]? = some aj) := by
    intro j aj hj hvj
    rcases List.get_cases_push hj with ⟨e, rfl⟩ | ⟨e, hj'⟩
    · exact .inl ⟨by simpa using e, rfl⟩
    · by_cases k : j = i
      · subst k
        rw [List.getElem?_set] at hj'
        simp at hj'
        rw [← hj'.2] at hvj
        cases hvj
      · rw [List.getElem?_set_ne (Ne.symm k)] at hj'
        exact .inr ⟨k, by simp at e; omega, hj'⟩
  refine ⟨h.os, h.tape, h.output, h.size, h.keep, ?_, ?_, ?_, ?_, ?_, ?_⟩
  · intro j aj hj
    rcases List.get_cases_push hj with ⟨e, rfl⟩ | ⟨e, hj'⟩
    · have : j = H.length := by simpa using e
      subst this; exact hb
    · have hne : j ≠ H.length := by simp at e; omega
      by_cases k : j = i
      · subst k
        rw [List.getElem?_set] at hj'
        simp at hj'
        rw [← hj'.2]; trivial
      · rw [List.getElem?_set_ne (Ne.symm k)] at hj'
        exact (h.blk j aj hj').mono hle (hoth j hne) (fun _ _ _ _ => rfl)
  · intro j aj b' d hj hvj hrj
    rcases cases' j aj hj hvj with ⟨rfl, rfl⟩ | ⟨h1, h2, h3⟩
    · rw [hat] at hrj; cases hrj; exact h.own i ab _ _ hi hv hr
    · rw [hoth j h2] at hrj; exact h.own j aj b' d h3 hvj hrj
  · intro j aj b' d hj hvj hrj
    rcases cases' j aj hj hvj with ⟨rfl, rfl⟩ | ⟨h1, h2, h3⟩
    · rw [hat] at hrj; cases hrj; exact h.lt i ab _ _ hi hv hr
    · rw [hoth j h2] at hrj; exact h.lt j aj b' d h3 hvj hrj
  · intro j k aj ak b' d e hj hk hvj hvk hrj hrk
    rcases cases' j aj hj hvj with ⟨rfl, rfl⟩ | ⟨h1, h2, h3⟩
    · rcases cases' k ak hk hvk with ⟨rfl, rfl⟩ | ⟨k1, k2, k3⟩
      · rfl
      · rw [hat] at hrj; rw [hoth k k2] at hrk
        cases hrj
        exact absurd (h.inj k i ak ab b e c k3 hi hvk hv hrk hr) k1
    · rcases cases' k ak hk hvk with ⟨rfl, rfl⟩ | ⟨k1, k2, k3⟩
      · rw [hat] at hrk; rw [hoth j h2] at hrj
        cases hrk
        exact absurd (h.inj j i aj ab b d c h3 hi hvj hv hrj hr) h1
      · rw [hoth j h2] at hrj; rw [hoth k k2] at hrk
        exact h.inj j k aj ak b' d e h3 k3 hvj hvk hrj hrk
  · intro j hj
    simp at hj
    rw [hoth j (by omega)]
    exact h.out j (by omega)
  · intro a v e
    refine ⟨(h.ro a v e).1, (h.ro a v e).2.1, fun j aj b' d hj hvj hrj => ?_⟩
    rcases cases' j aj hj hvj with ⟨rfl, rfl⟩ | ⟨h1, h2, h3⟩
    · rw [hat] at hrj; cases hrj; exact (h.ro a v e).2.2 i ab _ _ hi hv hr
    · rw [hoth j h2] at hrj; exact (h.ro a v e).2.2 j aj b' d h3 hvj hrj

/-- An index for a list that is nil. -/
theorem Sat.pushNil {g : G} {ρ : Env} {H : List AB} {w : World} (h : Sat g ρ H w) (sz : Nat) (f : Nat → List SV) (t : TypeId) : Sat g ρ (H ++ [.lst 0 sz f t]) w := by
  have hn := h.out H.length (Nat.le_refl _)
  have cases' : ∀ (j : Nat) (aj : AB) b c, (H ++ [AB.lst 0 sz f t])[j]? = some aj → ρ j = some (b, c) → H[j]? = some aj := by
    intro j aj b c hj hr
    rcases List.get_cases_push hj with ⟨rfl, rfl⟩ | ⟨e, hj'⟩
    · rw [hn] at hr; cases hr
    · exact hj'
  refine ⟨h.os, h.tape, h.output, h.size, h.keep, ?_, ?_, ?_, ?_, ?_, ?_⟩
  · intro j aj hj
    rcases List.get_cases_push hj with ⟨rfl, rfl⟩ | ⟨e, hj'⟩
    · exact .inl ⟨rfl, hn⟩
    · exact h.blk j aj hj'
  · intro j aj b c hj hvj hr; exact h.own j aj b c (cases' _ _ _ _ hj hr) hvj hr
  · intro j aj b c hj hvj hr; exact h.lt j aj b c (cases' _ _ _ _ hj hr) hvj hr
  · intro j k aj ak b c d hj hk hvj hvk hr hr'; exact h.inj j k aj ak b c d (cases' _ _ _ _ hj hr) (cases' _ _ _ _ hk hr') hvj hvk hr hr'
  · intro j hj; exact h.out j (by simp at hj; omega)
  · intro a v e
    exact ⟨(h.ro a v e).1, (h.ro a v e).2.1, fun j aj b c hj hvj hr => (h.ro a v e).2.2 j aj b c (cases' _ _ _ _ hj hr) hvj hr⟩

theorem Sat.kill {g : G} {ρ : Env} {H : List AB} {w : World} (h : Sat g ρ H w) (i : Nat) : Sat g ρ (H.set i .dead) w := by
  refine h.weaken (by simp) fun j ab ab' hj hj' => ?_
  by_cases k : j = i
  · subst k
    rw [List.getElem?_set] at hj'
    simp at hj'
    exact .inl hj'.2.symm
  · rw [List.getElem?_set_ne (Ne.symm k), hj] at hj'
    cases hj'
    exact .inr ⟨rfl, id⟩

/-! ### What is appended -/
def allK : Nat → (Nat → Prop) → Prop
  | 0, _ => True
  | n + 1, p => allK n p ∧ p n

theorem allK_spec : ∀ (n : Nat) (p : Nat → Prop), allK n p ↔ ∀ k, k < n → p k
  | 0, p => by simp [allK]
  | n + 1, p => by
    simp only [allK, allK_spec n p]
    constructor
    · rintro ⟨h1, h2⟩ k hk
      rcases Nat.lt_succ_iff_lt_or_eq.1 hk with q | rfl
      · exact h1 k q
      · exact h2
    · exact fun h => ⟨fun k hk => h k (by omega), h n (by omega)⟩

def roRow (E : Addr → Option Value) (b o sz : Nat) : List SV := (roCells E b o sz).2

def src (E : Addr → Option Value) (H : List AB) (sz : Nat) : SV → Prop × Nat × (Nat → List SV)
  | .lst j sz' off m => match hget H j with
    | .lst n sz'' f _ => (sz' = sz ∧ sz'' = sz ∧ off + m ≤ n ∧ allK m (fun k => (f (off + k)).length = sz ∧ (f (off + k)).all one = true), m, fun k => f (off + k))
    | _ => (False, 0, fun _ => [])
  | .raw (.slice none 0 0) => (True, 0, fun _ => [])
  | .raw (.slice (some ⟨b, o, none⟩) m _) => (allK m (fun k => (roCells E b (o + k * sz) sz).1 ∧ (roRow E b (o + k * sz) sz).all one = true), m, fun k => roRow E b (o + k * sz) sz)
  | _ => (False, 0, fun _ => [])

/-- The cells of a list of rows, laid one behind another. -/
theorem rows_flat (w : World) {ρ : Env} (b o sz : Nat) : ∀ (m : Nat) (f : Nat → List SV),
    (∀ k, k < m → ∃ vs : List Value, vs.length = sz ∧ (∀ j x, vs[j]? = some x → w.cell? ⟨b, o + k * sz + j, none⟩ = some x) ∧ RL ρ (f k) vs ∧ ∀ u ∈ vs, u.oneCell' = true) →
    ∃ news : List Value, news.length = m * sz ∧ (∀ j x, news[j]? = some x → w.cell? ⟨b, o + j, none⟩ = some x) ∧ (∀ u ∈ news, u.oneCell' = true) ∧
      ∀ k j s, k < m → j < sz → (f k)[j]? = some s → ∃ x, news[k * sz + j]? = some x ∧ R ρ s x
  | 0, f, _ => ⟨[], by simp, by simp, by simp, fun k j s hk => by omega⟩
  | m + 1, f, h => by
    obtain ⟨news, h1, h2, h3, h4⟩ := rows_flat w b o sz m f (fun k hk => h k (by omega))
    obtain ⟨vs, g1, g2, g3, g4⟩ := h m (by omega)
    refine ⟨news ++ vs, by simp [h1, g1, Nat.succ_mul], ?_, ?_, ?_⟩
    · intro j x hx
      by_cases q : j < news.length
      · rw [List.getElem?_append_left q] at hx
        exact h2 j x hx
      · rw [List.getElem?_append_right (by omega)] at hx
        have := g2 _ _ hx
        rwa [show o + m * sz + (j - news.length) = o + j by omega] at this
    · intro u hu
      rcases List.mem_append.1 hu with q | q
      · exact h3 u q
      · exact g4 u q
    · intro k j s hk hj hf
      rcases Nat.lt_succ_iff_lt_or_eq.1 hk with q | rfl
      · obtain ⟨x, hx, hr⟩ := h4 k j s q hj hf
        have hlt : k * sz + j < news.length := by
          rcases Nat.lt_or_ge (k * sz + j) news.length with z | z
          · exact z
          · rw [List.getElem?_eq_none z] at hx; cases hx
        exact ⟨x, by rw [List.getElem?_append_left hlt]; exact hx, hr⟩
      · obtain ⟨x, hx, hr⟩ := g3.get j s hf
        refine ⟨x, ?_, hr⟩
        rw [List.getElem?_append_right (by omega)]
        rwa [show k * sz + j - news.length = j by omega]

theorem all_one {ρ : Env} : ∀ {l : List SV} {r : List Value}, RL ρ l r → l.all one = true → ∀ u ∈ r, u.oneCell' = true
  | [], [], _, _ => by simp
  | [], _ :: _, h, _ => by simp only [RL] at h
  | _ :: _, [], h, _ => by simp only [RL] at h
  | s :: l, v :: r, h, ha => by
    simp only [RL] at h
    simp only [List.all_cons, Bool.and_eq_true] at ha
    intro u hu
    rcases List.mem_cons.1 hu with rfl | hu
    · exact (one_spec ha.1 h.1).1
    · exact all_one h.2 ha.2 u hu

theorem src_spec {g : G} {ρ : Env} {H : List AB} {w : World} (hs : Sat g ρ H w) {sz : Nat} {y : SV} {v : Value} (hv : R ρ y v) (h : (src g.E H sz y).1) :
    ∃ (ao : Option Addr) (c : Nat) (news : List Value), v = .slice ao (src g.E H sz y).2.1 c ∧ news.length = (src g.E H sz y).2.1 * sz ∧
      (∀ ad, ao = some ad → ∀ j x, news[j]? = some x → w.cell? (ad.add j) = some x) ∧ (ao = none → (src g.E H sz y).2.1 = 0) ∧ (∀ u ∈ news, u.oneCell' = true) ∧
      ∀ k j s, k < (src g.E H sz y).2.1 → j < sz → ((src g.E H sz y).2.2 k)[j]? = some s → ∃ x, news[k * sz + j]? = some x ∧ R ρ s x := by
  unfold src at h ⊢
  split at h
  · rename_i j sz' off m
    split at h
    · rename_i n sz'' f t hg
      obtain ⟨rfl, rfl, h3, h4⟩ := h
      rw [allK_spec] at h4
      simp only [R] at hv
      rcases hv with ⟨rfl, rfl⟩ | ⟨b, c, a, e1, e2, rfl, e4⟩
      · exact ⟨none, 0, [], rfl, by simp, by simp, fun _ => rfl, by simp, fun k j s hk => by simp at hk⟩
      · rcases Nat.eq_zero_or_pos m with rfl | hm
        · exact ⟨some a, c.1 - off, [], rfl, by simp, by simp, by simp, by simp, fun k j s hk => by simp at hk⟩
        have ha := e4 (by omega)
        subst ha
        have hb := hs.blk j _ (hget_some (H := H) (i := j) (by rw [hg]; rfl))
        rw [hg] at hb
        rcases hb with ⟨e0, _⟩ | ⟨b', c', a, x1, x2, x3, x4, x5⟩
        · omega
        rw [e1] at x1; cases x1
        obtain ⟨news, g1, g2, g3, g4⟩ := rows_flat w b (c.2 + off * sz'') sz'' m (fun k => f (off + k)) (ρ := ρ) (by
          intro k hk
          obtain ⟨hl, ho⟩ := h4 k hk
          have key : ∀ (l : List SV) (q : Nat), (∀ x s, l[x]? = some s → ∃ y, a[c.2 + (off + k) * sz'' + q + x]? = some y ∧ R ρ s y) →
              ∃ vs : List Value, vs.length = l.length ∧ (∀ x y, vs[x]? = some y → a[c.2 + (off + k) * sz'' + q + x]? = some y) ∧ RL ρ l vs := by
            intro l
            induction l with
            | nil => intro q _; exact ⟨[], rfl, by simp, by simp [RL]⟩
            | cons s l ih =>
              intro q hq
              obtain ⟨vs, i1, i2, i3⟩ := ih (q + 1) (fun x s hx => by
                have := hq (x + 1) s (by simpa using hx)
                rwa [show c.2 + (off + k) * sz'' + q + (x + 1) = c.2 + (off + k) * sz'' + (q + 1) + x by omega] at this)
              obtain ⟨y, hy, hr⟩ := hq 0 s (by simp)
              refine ⟨y :: vs, by simp [i1], ?_, by simp only [RL]; exact ⟨hr, i3⟩⟩
              intro x z hz
              cases x with
              | zero => simp at hz; subst hz; exact hy
              | succ x =>
                have := i2 x z (by simpa using hz)
                rwa [show c.2 + (off + k) * sz'' + (q + 1) + x = c.2 + (off + k) * sz'' + q + (x + 1) by omega] at this
          obtain ⟨vs, i1, i2, i3⟩ := key (f (off + k)) 0 (by
            intro x s hx
            have hx' : x < sz'' := by
              rcases Nat.lt_or_ge x (f (off + k)).length with z | z
              · omega
              · rw [List.getElem?_eq_none z] at hx; cases hx
            exact x5 (off + k) x s (by omega) hx' hx)
          refine ⟨vs, by omega, ?_, i3, all_one i3 ho⟩
          intro j x hx
          rw [cell_of w b _ a t _ x2]
          have := i2 j x hx
          rwa [show c.2 + (off + k) * sz'' + 0 + j = c.2 + off * sz'' + k * sz'' + j by rw [Nat.add_mul]; omega] at this)
        refine ⟨some ⟨b, c.2 + off * sz'', none⟩, c.1 - off, news, rfl, g1, ?_, by simp, g3, g4⟩
        rintro ad rfl' j x hx
        cases rfl'
        rw [addr_add]
        exact g2 j x hx
    · exact h.elim
  · simp only [R] at hv
    subst hv
    exact ⟨none, 0, [], rfl, by simp, by simp, fun _ => rfl, by simp, fun k j s hk => by simp at hk⟩
  · rename_i b o m cap
    simp only [R] at hv
    subst hv
    rw [allK_spec] at h
    obtain ⟨news, g1, g2, g3, g4⟩ := rows_flat w b o sz m (fun k => roRow g.E b (o + k * sz) sz) (ρ := ρ) (by
      intro k hk
      obtain ⟨h1, h2⟩ := h k hk
      obtain ⟨vs, i1, i2, i3⟩ := roCells_spec hs b sz (o + k * sz) h1
      exact ⟨vs, i1, i2, i3, all_one i3 h2⟩)
    refine ⟨some ⟨b, o, none⟩, cap, news, rfl, g1, ?_, by simp, g3, g4⟩
    rintro ad rfl' j x hx
    cases rfl'
    rw [addr_add]
    exact g2 j x hx
  · exact h.elim

end Go.Proofs.Ytmnpnnegnlhemaa.Eng
