/- The engine's ground: symbolic values, abstract heaps, and when a world satisfies one. Plain definitions and lemmas; no statement of the seat. -/
import Derived.WalkKit
import Derived.KernelRfl
namespace Go.Proofs.Ytmnpnnegnlhemaa.Eng
open Go

/-- A symbolic value: blocks are named by indices into an abstract heap. -/
inductive SV where
  | junk
  | raw (v : Value)
  | opt (g : Bool) (v : SV)
  | ptr (i o : Nat)
  | pel (i sz k j : Nat)
  | lst (i sz off len : Nat)
  | mapv (i : Nat)
  | fn (f : Fn) (first cap : List SV)
  | agg (cs : List SV)
  | tup (vs : List SV)

instance : Inhabited SV := ⟨.junk⟩

/-- An index's block, its capacity (in elements) and its first cell. -/
abbrev Env := Nat → Option (Nat × (Nat × Nat))

mutual
/-- The value that a symbolic one stands for. -/
def R (ρ : Env) : SV → Value → Prop
  | .junk, _ => True
  | .raw v, x => x = v
  | .opt g v, x => (g = true → R ρ v x) ∧ (g = false → x = undef)
  | .ptr i o, x => ∃ b c, ρ i = some (b, c) ∧ x = .pointer (some ⟨b, o, none⟩)
  | .pel i sz k j, x => ∃ b c, ρ i = some (b, c) ∧ x = .pointer (some ⟨b, c.2 + k * sz + j, none⟩)
  | .lst i sz off len, x => (len = 0 ∧ x = .slice none 0 0) ∨
      ∃ b c a, ρ i = some (b, c) ∧ off + len ≤ c.1 ∧ x = .slice (some a) len (c.1 - off) ∧ (off < c.1 → a = ⟨b, c.2 + off * sz, none⟩)
  | .mapv i, x => ∃ b c, ρ i = some (b, c) ∧ x = .map (some b)
  | .fn f fi ca, x => ∃ a b, x = .func f a b ∧ RL ρ fi a.toList ∧ RL ρ ca b.toList
  | .agg cs, x => ∃ a, x = .agg a ∧ RL ρ cs a.toList
  | .tup cs, x => ∃ a, x = .tuple a ∧ RL ρ cs a.toList
def RL (ρ : Env) : List SV → List Value → Prop
  | [], [] => True
  | s :: l, v :: r => R ρ s v ∧ RL ρ l r
  | [], _ :: _ => False
  | _ :: _, [] => False
end

def Env.le (ρ ρ' : Env) : Prop := ∀ i x, ρ i = some x → ρ' i = some x

theorem Env.le_refl (ρ : Env) : Env.le ρ ρ := fun _ _ h => h
theorem Env.le_trans {a b c : Env} (h : Env.le a b) (k : Env.le b c) : Env.le a c := fun i x e => k i x (h i x e)

mutual
theorem R.mono {ρ ρ' : Env} (h : Env.le ρ ρ') : ∀ (s : SV) (x : Value), R ρ s x → R ρ' s x
  | .junk, _, _ => by simp only [R]
  | .raw v, x, e => by simpa only [R] using e
  | .opt g v, x, e => by
    simp only [R] at e ⊢
    exact ⟨fun hg => R.mono h v x (e.1 hg), e.2⟩
  | .ptr i o, x, e => by
    simp only [R] at e ⊢
    obtain ⟨b, c, h1, h2⟩ := e
    exact ⟨b, c, h _ _ h1, h2⟩
  | .pel i sz k j, x, e => by
    simp only [R] at e ⊢
    obtain ⟨b, c, h1, h2⟩ := e
    exact ⟨b, c, h _ _ h1, h2⟩
  | .lst i sz off len, x, e => by
    simp only [R] at e ⊢
    rcases e with e | ⟨b, c, a, h1, h2⟩
    · exact .inl e
    · exact .inr ⟨b, c, a, h _ _ h1, h2⟩
  | .mapv i, x, e => by
    simp only [R] at e ⊢
    obtain ⟨b, c, h1, h2⟩ := e
    exact ⟨b, c, h _ _ h1, h2⟩
  | .fn f fi ca, x, e => by
    simp only [R] at e ⊢
    obtain ⟨a, b, h1, h2, h3⟩ := e
    exact ⟨a, b, h1, RL.mono h fi _ h2, RL.mono h ca _ h3⟩
  | .agg cs, x, e => by
    simp only [R] at e ⊢
    obtain ⟨a, h1, h2⟩ := e
    exact ⟨a, h1, RL.mono h cs _ h2⟩
  | .tup cs, x, e => by
    simp only [R] at e ⊢
    obtain ⟨a, h1, h2⟩ := e
    exact ⟨a, h1, RL.mono h cs _ h2⟩
theorem RL.mono {ρ ρ' : Env} (h : Env.le ρ ρ') : ∀ (l : List SV) (r : List Value), RL ρ l r → RL ρ' l r
  | [], [], _ => by simp only [RL]
  | s :: l, v :: r, e => by
    simp only [RL] at e ⊢
    exact ⟨R.mono h s v e.1, RL.mono h l r e.2⟩
  | [], _ :: _, e => by simp only [RL] at e
  | _ :: _, [], e => by simp only [RL] at e
end

theorem RL.length {ρ : Env} : ∀ {l : List SV} {r : List Value}, RL ρ l r → l.length = r.length
  | [], [], _ => rfl
  | _ :: l, _ :: r, e => by simp only [RL] at e; simp [RL.length e.2]
  | [], _ :: _, e => by simp only [RL] at e
  | _ :: _, [], e => by simp only [RL] at e

theorem RL.get {ρ : Env} : ∀ {l : List SV} {r : List Value}, RL ρ l r → ∀ (i : Nat) (s : SV), l[i]? = some s → ∃ v, r[i]? = some v ∧ R ρ s v
  | [], [], _, i, s, h => by simp at h
  | s0 :: l, v :: r, e, 0, s, h => by
    simp only [RL] at e
    simp at h
    subst h
    exact ⟨v, by simp, e.1⟩
  | s0 :: l, v :: r, e, i + 1, s, h => by
    simp only [RL] at e
    simpa using RL.get e.2 i s (by simpa using h)
  | [], _ :: _, e, _, _, _ => by simp only [RL] at e
  | _ :: _, [], e, _, _, _ => by simp only [RL] at e

theorem RL.set {ρ : Env} : ∀ {l : List SV} {r : List Value}, RL ρ l r → ∀ (i : Nat) (s : SV) (v : Value), R ρ s v → RL ρ (l.set i s) (r.set i v)
  | [], [], _, i, s, v, h => by simp [RL]
  | s0 :: l, v0 :: r, e, 0, s, v, h => by
    simp only [RL] at e
    simp only [List.set_cons_zero, RL]
    exact ⟨h, e.2⟩
  | s0 :: l, v0 :: r, e, i + 1, s, v, h => by
    simp only [RL] at e
    simp only [List.set_cons_succ, RL]
    exact ⟨e.1, RL.set e.2 i s v h⟩
  | [], _ :: _, e, _, _, _, _ => by simp only [RL] at e
  | _ :: _, [], e, _, _, _, _ => by simp only [RL] at e

theorem RL.append {ρ : Env} : ∀ {l l' : List SV} {r r' : List Value}, RL ρ l r → RL ρ l' r' → RL ρ (l ++ l') (r ++ r')
  | [], _, [], _, _, h => by simpa using h
  | s :: l, _, v :: r, _, e, h => by
    simp only [RL] at e
    simp only [List.cons_append, RL]
    exact ⟨e.1, RL.append e.2 h⟩
  | [], _, _ :: _, _, e, _ => by simp only [RL] at e
  | _ :: _, _, [], _, e, _ => by simp only [RL] at e

theorem RL.take {ρ : Env} : ∀ {l : List SV} {r : List Value} (n : Nat), RL ρ l r → RL ρ (l.take n) (r.take n)
  | _, _, 0, _ => by simp [RL]
  | [], [], n + 1, _ => by simp [RL]
  | s :: l, v :: r, n + 1, e => by
    simp only [RL] at e
    simp only [List.take_succ_cons, RL]
    exact ⟨e.1, RL.take n e.2⟩
  | [], _ :: _, _ + 1, e => by simp only [RL] at e
  | _ :: _, [], _ + 1, e => by simp only [RL] at e

theorem RL.drop {ρ : Env} : ∀ {l : List SV} {r : List Value} (n : Nat), RL ρ l r → RL ρ (l.drop n) (r.drop n)
  | _, _, 0, e => by simpa using e
  | [], [], n + 1, _ => by simp [RL]
  | s :: l, v :: r, n + 1, e => by
    simp only [RL] at e
    simpa using RL.drop n e.2
  | [], _ :: _, _ + 1, e => by simp only [RL] at e
  | _ :: _, [], _ + 1, e => by simp only [RL] at e

theorem RL.raws {ρ : Env} : ∀ (l : List Value), RL ρ (l.map SV.raw) l
  | [] => by simp [RL]
  | v :: l => by simp only [List.map_cons, RL]; exact ⟨by simp only [R], RL.raws l⟩

/-! ### Abstract heaps -/

inductive AB where
  | dead
  | hole
  | cells (cs : List SV) (t : TypeId)
  | lst (n sz : Nat) (f : Nat → List SV) (t : TypeId)
  | map (es : List (Value × SV))
  | lrec (b : Nat) (τ : List SV) (l : Loop)

def AB.live : AB → Bool
  | .dead | .hole => false
  | _ => true

/-- What entry number i of a map's list stands for. -/
def REnts (ρ : Env) : Nat → List (Value × SV) → List MapEntry → Prop
  | _, [], [] => True
  | n, (k, s) :: l, e :: r => e.key = k ∧ R ρ s e.val ∧ e.born = n ∧ REnts ρ (n + 1) l r
  | _, [], _ :: _ => False
  | _, _ :: _, [] => False

def BSat (ρ : Env) (i : Nat) (w : World) : AB → Prop
  | .dead => True
  | .hole => ρ i = none
  | .cells cs t => ∃ b c a, ρ i = some (b, c) ∧ w.heap[b]? = some (.cells a t (0, 0)) ∧ RL ρ cs a.toList
  | .lst n sz f t => (n = 0 ∧ ρ i = none) ∨ ∃ b c a, ρ i = some (b, c) ∧ w.heap[b]? = some (.cells a t (0, 0)) ∧ n ≤ c.1 ∧ a.size = c.2 + c.1 * sz ∧
      ∀ k j s, k < n → j < sz → (f k)[j]? = some s → ∃ x, a[c.2 + k * sz + j]? = some x ∧ R ρ s x
  | .map es => ∃ b c l, ρ i = some (b, c) ∧ w.heap[b]? = some (.map l es.length) ∧ REnts ρ 0 es l.toList
  | .lrec b τ l => ∃ c t, ρ i = some (b, c) ∧ w.heap[b]? = some (.loop { l with tmps := t }) ∧ RL ρ τ t.toList

/-- What the walk is relative to: the world at the start, the blocks that may be written, the cells that are only read. -/
structure G where
  w0 : World
  A : Nat → Prop
  E : Addr → Option Value

structure Sat (g : G) (ρ : Env) (H : List AB) (w : World) : Prop where
  os : w.os = g.w0.os
  tape : w.tape = g.w0.tape
  output : w.output = g.w0.output
  size : g.w0.heap.size ≤ w.heap.size
  keep : ∀ b, b < g.w0.heap.size → ¬ g.A b → w.heap[b]? = g.w0.heap[b]?
  blk : ∀ i ab, H[i]? = some ab → BSat ρ i w ab
  own : ∀ i ab b c, H[i]? = some ab → ab.live = true → ρ i = some (b, c) → g.A b ∨ g.w0.heap.size ≤ b
  lt : ∀ i ab b c, H[i]? = some ab → ab.live = true → ρ i = some (b, c) → b < w.heap.size
  inj : ∀ i j ai aj b c d, H[i]? = some ai → H[j]? = some aj → ai.live = true → aj.live = true → ρ i = some (b, c) → ρ j = some (b, d) → i = j
  out : ∀ i, H.length ≤ i → ρ i = none
  ro : ∀ a v, g.E a = some v → w.cell? a = some v ∧ a.block < w.heap.size ∧ ∀ i ab b c, H[i]? = some ab → ab.live = true → ρ i = some (b, c) → b ≠ a.block

def Env.ext (ρ : Env) (n : Nat) (x : Nat × (Nat × Nat)) : Env := fun i => if i = n then some x else ρ i

theorem Env.le_ext {ρ : Env} {n : Nat} {x : Nat × (Nat × Nat)} (h : ρ n = none) : Env.le ρ (ρ.ext n x) := by
  intro i y e
  unfold Env.ext
  split
  · subst i; rw [h] at e; cases e
  · exact e

theorem REnts.mono {ρ ρ' : Env} (h : Env.le ρ ρ') : ∀ (n : Nat) (l : List (Value × SV)) (r : List MapEntry), REnts ρ n l r → REnts ρ' n l r
  | _, [], [], _ => by simp only [REnts]
  | n, (k, s) :: l, e :: r, hh => by
    simp only [REnts] at hh ⊢
    exact ⟨hh.1, R.mono h _ _ hh.2.1, hh.2.2.1, REnts.mono h _ _ _ hh.2.2.2⟩
  | _, [], _ :: _, hh => by simp only [REnts] at hh
  | _, _ :: _, [], hh => by simp only [REnts] at hh

/-- A block's word goes on: the environment grows (not at this index), the block is as it was. -/
theorem BSat.mono {ρ ρ' : Env} {i : Nat} {w w' : World} {ab : AB} (h : Env.le ρ ρ') (hi : ρ' i = ρ i)
    (hw : ∀ b c, ab.live = true → ρ i = some (b, c) → w'.heap[b]? = w.heap[b]?) (hs : BSat ρ i w ab) : BSat ρ' i w' ab := by
  cases ab with
  | dead => trivial
  | hole => simpa only [BSat, hi] using hs
  | cells cs t =>
    obtain ⟨b, c, a, h1, h2, h3⟩ := hs
    exact ⟨b, c, a, hi ▸ h1, (hw b c rfl h1) ▸ h2, RL.mono h _ _ h3⟩
  | lst n sz f t =>
    rcases hs with ⟨h1, h2⟩ | ⟨b, c, a, h1, h2, h3, h4, h5⟩
    · exact .inl ⟨h1, hi ▸ h2⟩
    · refine .inr ⟨b, c, a, hi ▸ h1, (hw b c rfl h1) ▸ h2, h3, h4, fun k j s hk hj hf => ?_⟩
      obtain ⟨x, hx, hr⟩ := h5 k j s hk hj hf
      exact ⟨x, hx, R.mono h _ _ hr⟩
  | map es =>
    obtain ⟨b, c, l, h1, h2, h3⟩ := hs
    exact ⟨b, c, l, hi ▸ h1, (hw b c rfl h1) ▸ h2, REnts.mono h _ _ _ h3⟩
  | lrec b τ l =>
    obtain ⟨c, t, h1, h2, h3⟩ := hs
    exact ⟨c, t, hi ▸ h1, (hw b c rfl h1) ▸ h2, RL.mono h _ _ h3⟩

/-- A live block that is not nil has a number. -/
theorem BSat.num {ρ : Env} {i : Nat} {w : World} {ab : AB} (hl : ab.live = true) (hs : BSat ρ i w ab) (hn : ∀ sz f t, ab ≠ .lst 0 sz f t) : ∃ b c, ρ i = some (b, c) := by
  cases ab with
  | dead => cases hl
  | hole => cases hl
  | cells cs t => obtain ⟨b, c, a, h1, _⟩ := hs; exact ⟨b, c, h1⟩
  | lst n sz f t =>
    rcases hs with ⟨h1, h2⟩ | ⟨b, c, a, h1, _⟩
    · subst h1; exact absurd rfl (hn sz f t)
    · exact ⟨b, c, h1⟩
  | map es => obtain ⟨b, c, l, h1, _⟩ := hs; exact ⟨b, c, h1⟩
  | lrec b τ l => obtain ⟨c, t, h1, _⟩ := hs; exact ⟨b, c, h1⟩

/-- The world turned in nothing that is looked at (draws). -/
theorem Sat.same {g : G} {ρ : Env} {H : List AB} {w w' : World} (h : Sat g ρ H w) (hh : w'.heap = w.heap) (h1 : w'.os = w.os) (h2 : w'.tape = w.tape) (h3 : w'.output = w.output) : Sat g ρ H w' where
  os := h1.trans h.os
  tape := h2.trans h.tape
  output := h3.trans h.output
  size := by rw [hh]; exact h.size
  keep := by rw [hh]; exact h.keep
  blk := fun i ab hi => (h.blk i ab hi).mono (Env.le_refl _) rfl (fun _ _ _ _ => by rw [hh])
  own := h.own
  lt := by rw [hh]; exact h.lt
  inj := h.inj
  out := h.out
  ro := fun a v e => ⟨by have := (h.ro a v e).1; unfold World.cell? at *; rw [hh]; exact this, by rw [hh]; exact (h.ro a v e).2.1, (h.ro a v e).2.2⟩

theorem Sat.drew {g : G} {ρ : Env} {H : List AB} {w : World} (h : Sat g ρ H w) : Sat g ρ H w.drew := h.same rfl rfl rfl rfl

/-- What is known is forgotten. -/
theorem Sat.weaken {g : G} {ρ : Env} {H H' : List AB} {w : World} (h : Sat g ρ H w) (hl : H'.length = H.length)
    (hb : ∀ (i : Nat) (ab ab' : AB), H[i]? = some ab → H'[i]? = some ab' → ab' = .dead ∨ (ab.live = ab'.live ∧ (BSat ρ i w ab → BSat ρ i w ab'))) : Sat g ρ H' w := by
  have get : ∀ (i : Nat) (ab' : AB), H'[i]? = some ab' → ∃ ab, H[i]? = some ab := by
    intro i ab' hi
    have hlt : i < H'.length := by
      rcases Nat.lt_or_ge i H'.length with k | k
      · exact k
      · simp [List.getElem?_eq_none k] at hi
    exact ⟨H[i]'(by omega), by simp [hl ▸ hlt]⟩
  have back : ∀ (i : Nat) (ab' : AB), H'[i]? = some ab' → ab'.live = true → ∃ ab, H[i]? = some ab ∧ ab.live = true := by
    intro i ab' hi hv
    obtain ⟨ab, ha⟩ := get i ab' hi
    rcases hb i ab ab' ha hi with e | ⟨e, _⟩
    · subst e; cases hv
    · exact ⟨ab, ha, e.trans hv⟩
  refine ⟨h.os, h.tape, h.output, h.size, h.keep, ?_, ?_, ?_, ?_, ?_, ?_⟩
  · intro i ab' hi
    obtain ⟨ab, ha⟩ := get i ab' hi
    rcases hb i ab ab' ha hi with e | ⟨_, e⟩
    · subst e; trivial
    · exact e (h.blk i ab ha)
  · intro i ab' b c hi hv hr
    obtain ⟨ab, ha, hv'⟩ := back i ab' hi hv
    exact h.own i ab b c ha hv' hr
  · intro i ab' b c hi hv hr
    obtain ⟨ab, ha, hv'⟩ := back i ab' hi hv
    exact h.lt i ab b c ha hv' hr
  · intro i j ai aj b c d hi hj hvi hvj hri hrj
    obtain ⟨ab, ha, hv'⟩ := back i ai hi hvi
    obtain ⟨ab2, ha2, hv2⟩ := back j aj hj hvj
    exact h.inj i j ab ab2 b c d ha ha2 hv' hv2 hri hrj
  · intro i hi; exact h.out i (hl ▸ hi)
  · intro a v e
    refine ⟨(h.ro a v e).1, (h.ro a v e).2.1, fun i ab' b c hi hv hr => ?_⟩
    obtain ⟨ab, ha, hv'⟩ := back i ab' hi hv
    exact (h.ro a v e).2.2 i ab b c ha hv' hr

/-- A new block, at a new index or at a hole that waited for it. -/
theorem Sat.new {g : G} {ρ : Env} {H : List AB} {w : World} (h : Sat g ρ H w) {n : Nat} {c : Nat × Nat} {ab : AB} {H' : List AB} (o : Obj)
    (hn : ρ n = none) (hfree : n = H.length ∧ H' = H ++ [ab] ∨ H[n]? = some .hole ∧ H' = H.set n ab)
    (hb : BSat (ρ.ext n (w.heap.size, c)) n (w.alloc o) ab) : Sat g (ρ.ext n (w.heap.size, c)) H' (w.alloc o) := by
  have hle : Env.le ρ (ρ.ext n (w.heap.size, c)) := Env.le_ext hn
  have hat : (ρ.ext n (w.heap.size, c)) n = some (w.heap.size, c) := by simp [Env.ext]
  have hoth : ∀ i, i ≠ n → (ρ.ext n (w.heap.size, c)) i = ρ i := fun i hi => by simp [Env.ext, hi]
  -- each entry of H' is the new one, or an old one at another place
  have cases' : ∀ (i : Nat) (ab' : AB), H'[i]? = some ab' → (i = n ∧ ab' = ab) ∨ (i ≠ n ∧ H[i]? = some ab') := by
    intro i ab' hi
    rcases hfree with ⟨e, rfl⟩ | ⟨e, rfl⟩
    · subst e
      rcases Nat.lt_trichotomy i H.length with k | k | k
      · rw [List.getElem?_append_left k] at hi
        exact .inr ⟨by omega, hi⟩
      · subst k
        simp at hi
        exact .inl ⟨rfl, hi.symm⟩
      · rw [List.getElem?_eq_none (by simp; omega)] at hi
        cases hi
    · by_cases k : i = n
      · subst k
        rw [List.getElem?_set] at hi
        simp at hi
        exact .inl ⟨rfl, hi.2.symm⟩
      · rw [List.getElem?_set_ne (Ne.symm k)] at hi
        exact .inr ⟨k, hi⟩
  have old : ∀ k, k < w.heap.size → (w.alloc o).heap[k]? = w.heap[k]? := fun k hk => Go.RowKit.Below.heap_alloc w o k hk
  refine ⟨h.os, h.tape, h.output, by simp; have := h.size; omega, ?_, ?_, ?_, ?_, ?_, ?_, ?_⟩
  · intro b hb' hA
    rw [old b (Nat.lt_of_lt_of_le hb' h.size)]
    exact h.keep b hb' hA
  · intro i ab' hi
    rcases cases' i ab' hi with ⟨rfl, rfl⟩ | ⟨hne, hi'⟩
    · exact hb
    · exact (h.blk i ab' hi').mono hle (hoth i hne) (fun b c' hv hr => old b (h.lt i ab' b c' hi' hv hr))
  · intro i ab' b c' hi hv hr
    rcases cases' i ab' hi with ⟨rfl, rfl⟩ | ⟨hne, hi'⟩
    · rw [hat] at hr; cases hr; exact .inr h.size
    · rw [hoth i hne] at hr; exact h.own i ab' b c' hi' hv hr
  · intro i ab' b c' hi hv hr
    rcases cases' i ab' hi with ⟨rfl, rfl⟩ | ⟨hne, hi'⟩
    · rw [hat] at hr; cases hr; simp
    · rw [hoth i hne] at hr
      have := h.lt i ab' b c' hi' hv hr
      simp; omega
  · intro i j ai aj b c' d hi hj hvi hvj hri hrj
    rcases cases' i ai hi with ⟨rfl, rfl⟩ | ⟨hnei, hi'⟩
    · rcases cases' j aj hj with ⟨rfl, rfl⟩ | ⟨hnej, hj'⟩
      · rfl
      · rw [hat] at hri; rw [hoth j hnej] at hrj
        have := h.lt j aj b d hj' hvj hrj
        cases hri; omega
    · rcases cases' j aj hj with ⟨rfl, rfl⟩ | ⟨hnej, hj'⟩
      · rw [hat] at hrj; rw [hoth i hnei] at hri
        have := h.lt i ai b c' hi' hvi hri
        cases hrj; omega
      · rw [hoth i hnei] at hri; rw [hoth j hnej] at hrj
        exact h.inj i j ai aj b c' d hi' hj' hvi hvj hri hrj
  · intro i hi
    have hlen : H.length ≤ H'.length ∧ (n < H'.length) := by
      rcases hfree with ⟨e, rfl⟩ | ⟨e, rfl⟩
      · subst e; simp
      · have : n < H.length := by
          rcases Nat.lt_or_ge n H.length with k | k
          · exact k
          · rw [List.getElem?_eq_none k] at e; cases e
        simp; exact this
    rw [hoth i (by omega)]
    exact h.out i (by omega)
  · intro a v e
    have e' := h.ro a v e
    refine ⟨(World.cell?_alloc_lt w o a e'.2.1).trans e'.1, by simp; have := e'.2.1; omega, fun i ab' b c' hi hv hr => ?_⟩
    rcases cases' i ab' hi with ⟨rfl, rfl⟩ | ⟨hne, hi'⟩
    · rw [hat] at hr; cases hr; have := e'.2.1; omega
    · rw [hoth i hne] at hr; exact e'.2.2 i ab' b c' hi' hv hr

/-- One live block is written. -/
theorem Sat.upd {g : G} {ρ : Env} {H : List AB} {w w' : World} (h : Sat g ρ H w) {i b : Nat} {c : Nat × Nat} {ab ab' : AB}
    (hi : H[i]? = some ab) (hv : ab.live = true) (hr : ρ i = some (b, c)) (hv' : ab'.live = true)
    (h1 : w'.os = w.os) (h2 : w'.tape = w.tape) (h3 : w'.output = w.output) (h4 : w'.heap.size = w.heap.size)
    (hh : ∀ k, k ≠ b → w'.heap[k]? = w.heap[k]?) (hb : BSat ρ i w' ab') : Sat g ρ (H.set i ab') w' := by
  have hil : i < H.length := by
    rcases Nat.lt_or_ge i H.length with k | k
    · exact k
    · rw [List.getElem?_eq_none k] at hi; cases hi
  have cases' : ∀ (j : Nat) (aj : AB), (H.set i ab')[j]? = some aj → (j = i ∧ aj = ab') ∨ (j ≠ i ∧ H[j]? = some aj) := by
    intro j aj hj
    by_cases k : j = i
    · subst k
      rw [List.getElem?_set] at hj
      simp [hil] at hj
      exact .inl ⟨rfl, hj.symm⟩
    · rw [List.getElem?_set_ne (Ne.symm k)] at hj
      exact .inr ⟨k, hj⟩
  have back : ∀ (j : Nat) (aj : AB), (H.set i ab')[j]? = some aj → aj.live = true → ∃ ak, H[j]? = some ak ∧ ak.live = true := by
    intro j aj hj hvj
    rcases cases' j aj hj with ⟨rfl, rfl⟩ | ⟨_, hj'⟩
    · exact ⟨ab, hi, hv⟩
    · exact ⟨aj, hj', hvj⟩
  refine ⟨h1.trans h.os, h2.trans h.tape, h3.trans h.output, by rw [h4]; exact h.size, ?_, ?_, ?_, ?_, ?_, ?_, ?_⟩
  · intro k hk hA
    have hne : k ≠ b := by
      rintro rfl
      rcases h.own i ab k c hi hv hr with q | q
      · exact hA q
      · omega
    rw [hh k hne]
    exact h.keep k hk hA
  · intro j aj hj
    rcases cases' j aj hj with ⟨rfl, rfl⟩ | ⟨hne, hj'⟩
    · exact hb
    · refine (h.blk j aj hj').mono (Env.le_refl _) rfl (fun b' c' hvj hrj => hh b' ?_)
      rintro rfl
      exact hne (h.inj j i aj ab b' c' c hj' hi hvj hv hrj hr)
  · intro j aj b' c' hj hvj hrj
    obtain ⟨ak, hk, hvk⟩ := back j aj hj hvj
    exact h.own j ak b' c' hk hvk hrj
  · intro j aj b' c' hj hvj hrj
    obtain ⟨ak, hk, hvk⟩ := back j aj hj hvj
    rw [h4]
    exact h.lt j ak b' c' hk hvk hrj
  · intro j k aj ak b' c' d hj hk hvj hvk hrj hrk
    obtain ⟨aj', hj', hvj'⟩ := back j aj hj hvj
    obtain ⟨ak', hk', hvk'⟩ := back k ak hk hvk
    exact h.inj j k aj' ak' b' c' d hj' hk' hvj' hvk' hrj hrk
  · intro j hj
    exact h.out j (by simpa using hj)
  · intro a v e
    have e' := h.ro a v e
    have hne : a.block ≠ b := Ne.symm (e'.2.2 i ab b c hi hv hr)
    refine ⟨?_, by rw [h4]; exact e'.2.1, fun j aj b' c' hj hvj hrj => ?_⟩
    · have := e'.1
      unfold World.cell? at *
      rw [hh _ hne]
      exact this
    · obtain ⟨ak, hk, hvk⟩ := back j aj hj hvj
      exact e'.2.2 j ak b' c' hk hvk hrj

end Go.Proofs.Ytmnpnnegnlhemaa.Eng
