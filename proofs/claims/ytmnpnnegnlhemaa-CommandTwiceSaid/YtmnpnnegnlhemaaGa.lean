/- The engine's frames: slots, and a region that runs in the text's order. Plain lemmas; no statement of the seat. -/
import Derived.WalkKit
import Derived.KernelRfl
import Derived.RangeFuncIn
namespace Go.Proofs.Ytmnpnnegnlhemaa.Eng
open Go

/-- A symbolic value: blocks are named by indices into an abstract heap. -/
inductive SV where
  | junk
  | raw (v : Value)
  | opt (g : Bool) (v : SV)
  | ptr (i o : Nat)
  | pel (i sz k j : Nat)
  | lst (i sz off len : Nat)
  | mapv (i : Nat)
  | fn (f : Fn) (first cap : List SV)
  | agg (cs : List SV)
  | tup (vs : List SV)

instance : Inhabited SV := ⟨.junk⟩

/-- An index's block, its capacity (in elements) and its first cell. -/
abbrev Env := Nat → Option (Nat × (Nat × Nat))

mutual
/-- The value that a symbolic one stands for. -/
def R (ρ : Env) : SV → Value → Prop
  | .junk, _ => True
  | .raw v, x => x = v
  | .opt g v, x => (g = true → R ρ v x) ∧ (g = false → x = undef)
  | .ptr i o, x => ∃ b c, ρ i = some (b, c) ∧ x = .pointer (some ⟨b, o, none⟩)
  | .pel i sz k j, x => ∃ b c, ρ i = some (b, c) ∧ x = .pointer (some ⟨b, c.2 + k * sz + j, none⟩)
  | .lst i sz off len, x => (len = 0 ∧ x = .slice none 0 0) ∨
      ∃ b c a, ρ i = some (b, c) ∧ off + len ≤ c.1 ∧ x = .slice (some a) len (c.1 - off) ∧ (off < c.1 → a = ⟨b, c.2 + off * sz, none⟩)
  | .mapv i, x => ∃ b c, ρ i = some (b, c) ∧ x = .map (some b)
  | .fn f fi ca, x => ∃ a b, x = .func f a b ∧ RL ρ fi a.toList ∧ RL ρ ca b.toList
  | .agg cs, x => ∃ a, x = .agg a ∧ RL ρ cs a.toList
  | .tup cs, x => ∃ a, x = .tuple a ∧ RL ρ cs a.toList
def RL (ρ : Env) : List SV → List Value → Prop
  | [], [] => True
  | s :: l, v :: r => R ρ s v ∧ RL ρ l r
  | [], _ :: _ => False
  | _ :: _, [] => False
end

def Env.le (ρ ρ' : Env) : Prop := ∀ i x, ρ i = some x → ρ' i = some x

theorem Env.le_refl (ρ : Env) : Env.le ρ ρ := fun _ _ h => h
theorem Env.le_trans {a b c : Env} (h : Env.le a b) (k : Env.le b c) : Env.le a c := fun i x e => k i x (h i x e)

mutual
theorem R.mono {ρ ρ' : Env} (h : Env.le ρ ρ') : ∀ (s : SV) (x : Value), R ρ s x → R ρ' s x
  | .junk, _, _ => by simp only [R]
  | .raw v, x, e => by simpa only [R] using e
  | .opt g v, x, e => by
    simp only [R] at e ⊢
    exact ⟨fun hg => R.mono h v x (e.1 hg), e.2⟩
  | .ptr i o, x, e => by
    simp only [R] at e ⊢
    obtain ⟨b, c, h1, h2⟩ := e
    exact ⟨b, c, h _ _ h1, h2⟩
  | .pel i sz k j, x, e => by
    simp only [R] at e ⊢
    obtain ⟨b, c, h1, h2⟩ := e
    exact ⟨b, c, h _ _ h1, h2⟩
  | .lst i sz off len, x, e => by
    simp only [R] at e ⊢
    rcases e with e | ⟨b, c, a, h1, h2⟩
    · exact .inl e
    · exact .inr ⟨b, c, a, h _ _ h1, h2⟩
  | .mapv i, x, e => by
    simp only [R] at e ⊢
    obtain ⟨b, c, h1, h2⟩ := e
    exact ⟨b, c, h _ _ h1, h2⟩
  | .fn f fi ca, x, e => by
    simp only [R] at e ⊢
    obtain ⟨a, b, h1, h2, h3⟩ := e
    exact ⟨a, b, h1, RL.mono h fi _ h2, RL.mono h ca _ h3⟩
  | .agg cs, x, e => by
    simp only [R] at e ⊢
    obtain ⟨a, h1, h2⟩ := e
    exact ⟨a, h1, RL.mono h cs _ h2⟩
  | .tup cs, x, e => by
    simp only [R] at e ⊢
    obtain ⟨a, h1, h2⟩ := e
    exact ⟨a, h1, RL.mono h cs _ h2⟩
theorem RL.mono {ρ ρ' : Env} (h : Env.le ρ ρ') : ∀ (l : List SV) (r : List Value), RL ρ l r → RL ρ' l r
  | [], [], _ => by simp only [RL]
  | s :: l, v :: r, e => by
    simp only [RL] at e ⊢
    exact ⟨R.mono h s v e.1, RL.mono h l r e.2⟩
  | [], _ :: _, e => by simp only [RL] at e
  | _ :: _, [], e => by simp only [RL] at e
end

theorem RL.length {ρ : Env} : ∀ {l : List SV} {r : List Value}, RL ρ l r → l.length = r.length
  | [], [], _ => rfl
  | _ :: l, _ :: r, e => by simp only [RL] at e; simp [RL.length e.2]
  | [], _ :: _, e => by simp only [RL] at e
  | _ :: _, [], e => by simp only [RL] at e

theorem RL.get {ρ : Env} : ∀ {l : List SV} {r : List Value}, RL ρ l r → ∀ (i : Nat) (s : SV), l[i]? = some s → ∃ v, r[i]? = some v ∧ R ρ s v
  | [], [], _, i, s, h => by simp at h
  | s0 :: l, v :: r, e, 0, s, h => by
    simp only [RL] at e
    simp at h
    subst h
    exact ⟨v, by simp, e.1⟩
  | s0 :: l, v :: r, e, i + 1, s, h => by
    simp only [RL] at e
    simpa using RL.get e.2 i s (by simpa using h)
  | [], _ :: _, e, _, _, _ => by simp only [RL] at e
  | _ :: _, [], e, _, _, _ => by simp only [RL] at e

theorem RL.set {ρ : Env} : ∀ {l : List SV} {r : List Value}, RL ρ l r → ∀ (i : Nat) (s : SV) (v : Value), R ρ s v → RL ρ (l.set i s) (r.set i v)
  | [], [], _, i, s, v, h => by simp [RL]
  | s0 :: l, v0 :: r, e, 0, s, v, h => by
    simp only [RL] at e
    simp only [List.set_cons_zero, RL]
    exact ⟨h, e.2⟩
  | s0 :: l, v0 :: r, e, i + 1, s, v, h => by
    simp only [RL] at e
    simp only [List.set_cons_succ, RL]
    exact ⟨e.1, RL.set e.2 i s v h⟩
  | [], _ :: _, e, _, _, _, _ => by simp only [RL] at e
  | _ :: _, [], e, _, _, _, _ => by simp only [RL] at e

theorem RL.append {ρ : Env} : ∀ {l l' : List SV} {r r' : List Value}, RL ρ l r → RL ρ l' r' → RL ρ (l ++ l') (r ++ r')
  | [], _, [], _, _, h => by simpa using h
  | s :: l, _, v :: r, _, e, h => by
    simp only [RL] at e
    simp only [List.cons_append, RL]
    exact ⟨e.1, RL.append e.2 h⟩
  | [], _, _ :: _, _, e, _ => by simp only [RL] at e
  | _ :: _, _, [], _, e, _ => by simp only [RL] at e

theorem RL.take {ρ : Env} : ∀ {l : List SV} {r : List Value} (n : Nat), RL ρ l r → RL ρ (l.take n) (r.take n)
  | _, _, 0, _ => by simp [RL]
  | [], [], n + 1, _ => by simp [RL]
  | s :: l, v :: r, n + 1, e => by
    simp only [RL] at e
    simp only [List.take_succ_cons, RL]
    exact ⟨e.1, RL.take n e.2⟩
  | [], _ :: _, _ + 1, e => by simp only [RL] at e
  | _ :: _, [], _ + 1, e => by simp only [RL] at e

theorem RL.drop {ρ : Env} : ∀ {l : List SV} {r : List Value} (n : Nat), RL ρ l r → RL ρ (l.drop n) (r.drop n)
  | _, _, 0, e => by simpa using e
  | [], [], n + 1, _ => by simp [RL]
  | s :: l, v :: r, n + 1, e => by
    simp only [RL] at e
    simpa using RL.drop n e.2
  | [], _ :: _, _ + 1, e => by simp only [RL] at e
  | _ :: _, [], _ + 1, e => by simp only [RL] at e

theorem RL.raws {ρ : Env} : ∀ (l : List Value), RL ρ (l.map SV.raw) l
  | [] => by simp [RL]
  | v :: l => by simp only [List.map_cons, RL]; exact ⟨by simp only [R], RL.raws l⟩

/-! ### Abstract heaps -/

inductive AB where
  | dead
  | hole
  | cells (cs : List SV) (t : TypeId)
  | lst (n sz : Nat) (f : Nat → List SV) (t : TypeId)
  | map (es : List (Value × SV))
  | lrec (b : Nat) (τ : List SV) (l : Loop)

def AB.live : AB → Bool
  | .dead | .hole => false
  | _ => true

/-- What entry number i of a map's list stands for. -/
def REnts (ρ : Env) : Nat → List (Value × SV) → List MapEntry → Prop
  | _, [], [] => True
  | n, (k, s) :: l, e :: r => e.key = k ∧ R ρ s e.val ∧ e.born = n ∧ REnts ρ (n + 1) l r
  | _, [], _ :: _ => False
  | _, _ :: _, [] => False

def BSat (ρ : Env) (i : Nat) (w : World) : AB → Prop
  | .dead => True
  | .hole => ρ i = none
  | .cells cs t => ∃ b c a, ρ i = some (b, c) ∧ w.heap[b]? = some (.cells a t (0, 0)) ∧ RL ρ cs a.toList
  | .lst n sz f t => (n = 0 ∧ ρ i = none) ∨ ∃ b c a, ρ i = some (b, c) ∧ w.heap[b]? = some (.cells a t (0, 0)) ∧ n ≤ c.1 ∧ a.size = c.2 + c.1 * sz ∧
      ∀ k j s, k < n → j < sz → (f k)[j]? = some s → ∃ x, a[c.2 + k * sz + j]? = some x ∧ R ρ s x
  | .map es => ∃ b c l, ρ i = some (b, c) ∧ w.heap[b]? = some (.map l es.length) ∧ REnts ρ 0 es l.toList
  | .lrec b τ l => ∃ c t, ρ i = some (b, c) ∧ w.heap[b]? = some (.loop { l with tmps := t }) ∧ RL ρ τ t.toList

/-- What the walk is relative to: the world at the start, the blocks that may be written, the cells that are only read. -/
structure G where
  w0 : World
  A : Nat → Prop
  E : Addr → Option Value

structure Sat (g : G) (ρ : Env) (H : List AB) (w : World) : Prop where
  os : w.os = g.w0.os
  tape : w.tape = g.w0.tape
  output : w.output = g.w0.output
  size : g.w0.heap.size ≤ w.heap.size
  keep : ∀ b, b < g.w0.heap.size → ¬ g.A b → w.heap[b]? = g.w0.heap[b]?
  blk : ∀ i ab, H[i]? = some ab → BSat ρ i w ab
  own : ∀ i ab b c, H[i]? = some ab → ab.live = true → ρ i = some (b, c) → g.A b ∨ g.w0.heap.size ≤ b
  lt : ∀ i ab b c, H[i]? = some ab → ab.live = true → ρ i = some (b, c) → b < w.heap.size
  inj : ∀ i j ai aj b c d, H[i]? = some ai → H[j]? = some aj → ai.live = true → aj.live = true → ρ i = some (b, c) → ρ j = some (b, d) → i = j
  out : ∀ i, H.length ≤ i → ρ i = none
  ro : ∀ a v, g.E a = some v → w.cell? a = some v ∧ a.block < w.heap.size ∧ ∀ i ab b c, H[i]? = some ab → ab.live = true → ρ i = some (b, c) → b ≠ a.block

def Env.ext (ρ : Env) (n : Nat) (x : Nat × (Nat × Nat)) : Env := fun i => if i = n then some x else ρ i

theorem Env.le_ext {ρ : Env} {n : Nat} {x : Nat × (Nat × Nat)} (h : ρ n = none) : Env.le ρ (ρ.ext n x) := by
  intro i y e
  unfold Env.ext
  split
  · subst i; rw [h] at e; cases e
  · exact e

theorem REnts.mono {ρ ρ' : Env} (h : Env.le ρ ρ') : ∀ (n : Nat) (l : List (Value × SV)) (r : List MapEntry), REnts ρ n l r → REnts ρ' n l r
  | _, [], [], _ => by simp only [REnts]
  | n, (k, s) :: l, e :: r, hh => by
    simp only [REnts] at hh ⊢
    exact ⟨hh.1, R.mono h _ _ hh.2.1, hh.2.2.1, REnts.mono h _ _ _ hh.2.2.2⟩
  | _, [], _ :: _, hh => by simp only [REnts] at hh
  | _, _ :: _, [], hh => by simp only [REnts] at hh

/-- A block's word goes on: the environment grows (not at this index), the block is as it was. -/
theorem BSat.mono {ρ ρ' : Env} {i : Nat} {w w' : World} {ab : AB} (h : Env.le ρ ρ') (hi : ρ' i = ρ i)
    (hw : ∀ b c, ab.live = true → ρ i = some (b, c) → w'.heap[b]? = w.heap[b]?) (hs : BSat ρ i w ab) : BSat ρ' i w' ab := by
  cases ab with
  | dead => trivial
  | hole => simpa only [BSat, hi] using hs
  | cells cs t =>
    obtain ⟨b, c, a, h1, h2, h3⟩ := hs
    exact ⟨b, c, a, hi ▸ h1, (hw b c rfl h1) ▸ h2, RL.mono h _ _ h3⟩
  | lst n sz f t =>
    rcases hs with ⟨h1, h2⟩ | ⟨b, c, a, h1, h2, h3, h4, h5⟩
    · exact .inl ⟨h1, hi ▸ h2⟩
    · refine .inr ⟨b, c, a, hi ▸ h1, (hw b c rfl h1) ▸ h2, h3, h4, fun k j s hk hj hf => ?_⟩
      obtain ⟨x, hx, hr⟩ := h5 k j s hk hj hf
      exact ⟨x, hx, R.mono h _ _ hr⟩
  | map es =>
    obtain ⟨b, c, l, h1, h2, h3⟩ := hs
    exact ⟨b, c, l, hi ▸ h1, (hw b c rfl h1) ▸ h2, REnts.mono h _ _ _ h3⟩
  | lrec b τ l =>
    obtain ⟨c, t, h1, h2, h3⟩ := hs
    exact ⟨c, t, hi ▸ h1, (hw b c rfl h1) ▸ h2, RL.mono h _ _ h3⟩

/-- A live block that is not nil has a number. -/
theorem BSat.num {ρ : Env} {i : Nat} {w : World} {ab : AB} (hl : ab.live = true) (hs : BSat ρ i w ab) (hn : ∀ sz f t, ab ≠ .lst 0 sz f t) : ∃ b c, ρ i = some (b, c) := by
  cases ab with
  | dead => cases hl
  | hole => cases hl
  | cells cs t => obtain ⟨b, c, a, h1, _⟩ := hs; exact ⟨b, c, h1⟩
  | lst n sz f t =>
    rcases hs with ⟨h1, h2⟩ | ⟨b, c, a, h1, _⟩
    · subst h1; exact absurd rfl (hn sz f t)
    · exact ⟨b, c, h1⟩
  | map es => obtain ⟨b, c, l, h1, _⟩ := hs; exact ⟨b, c, h1⟩
  | lrec b τ l => obtain ⟨c, t, h1, _⟩ := hs; exact ⟨b, c, h1⟩

/-- The world turned in nothing that is looked at (draws). -/
theorem Sat.same {g : G} {ρ : Env} {H : List AB} {w w' : World} (h : Sat g ρ H w) (hh : w'.heap = w.heap) (h1 : w'.os = w.os) (h2 : w'.tape = w.tape) (h3 : w'.output = w.output) : Sat g ρ H w' where
  os := h1.trans h.os
  tape := h2.trans h.tape
  output := h3.trans h.output
  size := by rw [hh]; exact h.size
  keep := by rw [hh]; exact h.keep
  blk := fun i ab hi => (h.blk i ab hi).mono (Env.le_refl _) rfl (fun _ _ _ _ => by rw [hh])
  own := h.own
  lt := by rw [hh]; exact h.lt
  inj := h.inj
  out := h.out
  ro := fun a v e => ⟨by have := (h.ro a v e).1; unfold World.cell? at *; rw [hh]; exact this, by rw [hh]; exact (h.ro a v e).2.1, (h.ro a v e).2.2⟩

theorem Sat.drew {g : G} {ρ : Env} {H : List AB} {w : World} (h : Sat g ρ H w) : Sat g ρ H w.drew := h.same rfl rfl rfl rfl

/-- What is known is forgotten. -/
theorem Sat.weaken {g : G} {ρ : Env} {H H' : List AB} {w : World} (h : Sat g ρ H w) (hl : H'.length = H.length)
    (hb : ∀ (i : Nat) (ab ab' : AB), H[i]? = some ab → H'[i]? = some ab' → ab' = .dead ∨ (ab.live = ab'.live ∧ (BSat ρ i w ab → BSat ρ i w ab'))) : Sat g ρ H' w := by
  have get : ∀ (i : Nat) (ab' : AB), H'[i]? = some ab' → ∃ ab, H[i]? = some ab := by
    intro i ab' hi
    have hlt : i < H'.length := by
      rcases Nat.lt_or_ge i H'.length with k | k
      · exact k
      · simp [List.getElem?_eq_none k] at hi
    exact ⟨H[i]'(by omega), by simp [hl ▸ hlt]⟩
  have back : ∀ (i : Nat) (ab' : AB), H'[i]? = some ab' → ab'.live = true → ∃ ab, H[i]? = some ab ∧ ab.live = true := by
    intro i ab' hi hv
    obtain ⟨ab, ha⟩ := get i ab' hi
    rcases hb i ab ab' ha hi with e | ⟨e, _⟩
    · subst e; cases hv
    · exact ⟨ab, ha, e.trans hv⟩
  refine ⟨h.os, h.tape, h.output, h.size, h.keep, ?_, ?_, ?_, ?_, ?_, ?_⟩
  · intro i ab' hi
    obtain ⟨ab, ha⟩ := get i ab' hi
    rcases hb i ab ab' ha hi with e | ⟨_, e⟩
    · subst e; trivial
    · exact e (h.blk i ab ha)
  · intro i ab' b c hi hv hr
    obtain ⟨ab, ha, hv'⟩ := back i ab' hi hv
    exact h.own i ab b c ha hv' hr
  · intro i ab' b c hi hv hr
    obtain ⟨ab, ha, hv'⟩ := back i ab' hi hv
    exact h.lt i ab b c ha hv' hr
  · intro i j ai aj b c d hi hj hvi hvj hri hrj
    obtain ⟨ab, ha, hv'⟩ := back i ai hi hvi
    obtain ⟨ab2, ha2, hv2⟩ := back j aj hj hvj
    exact h.inj i j ab ab2 b c d ha ha2 hv' hv2 hri hrj
  · intro i hi; exact h.out i (hl ▸ hi)
  · intro a v e
    refine ⟨(h.ro a v e).1, (h.ro a v e).2.1, fun i ab' b c hi hv hr => ?_⟩
    obtain ⟨ab, ha, hv'⟩ := back i ab' hi hv
    exact (h.ro a v e).2.2 i ab b c ha hv' hr

/-- A new block, at a new index or at a hole that waited for it. -/
theorem Sat.new {g : G} {ρ : Env} {H : List AB} {w : World} (h : Sat g ρ H w) {n : Nat} {c : Nat × Nat} {ab : AB} {H' : List AB} (o : Obj)
    (hn : ρ n = none) (hfree : n = H.length ∧ H' = H ++ [ab] ∨ H[n]? = some .hole ∧ H' = H.set n ab)
    (hb : BSat (ρ.ext n (w.heap.size, c)) n (w.alloc o) ab) : Sat g (ρ.ext n (w.heap.size, c)) H' (w.alloc o) := by
  have hle : Env.le ρ (ρ.ext n (w.heap.size, c)) := Env.le_ext hn
  have hat : (ρ.ext n (w.heap.size, c)) n = some (w.heap.size, c) := by simp [Env.ext]
  have hoth : ∀ i, i ≠ n → (ρ.ext n (w.heap.size, c)) i = ρ i := fun i hi => by simp [Env.ext, hi]
  -- each entry of H' is the new one, or an old one at another place
  have cases' : ∀ (i : Nat) (ab' : AB), H'[i]? = some ab' → (i = n ∧ ab' = ab) ∨ (i ≠ n ∧ H[i]? = some ab') := by
    intro i ab' hi
    rcases hfree with ⟨e, rfl⟩ | ⟨e, rfl⟩
    · subst e
      rcases Nat.lt_trichotomy i H.length with k | k | k
      · rw [List.getElem?_append_left k] at hi
        exact .inr ⟨by omega, hi⟩
      · subst k
        simp at hi
        exact .inl ⟨rfl, hi.symm⟩
      · rw [List.getElem?_eq_none (by simp; omega)] at hi
        cases hi
    · by_cases k : i = n
      · subst k
        rw [List.getElem?_set] at hi
        simp at hi
        exact .inl ⟨rfl, hi.2.symm⟩
      · rw [List.getElem?_set_ne (Ne.symm k)] at hi
        exact .inr ⟨k, hi⟩
  have old : ∀ k, k < w.heap.size → (w.alloc o).heap[k]? = w.heap[k]? := fun k hk => Go.RowKit.Below.heap_alloc w o k hk
  refine ⟨h.os, h.tape, h.output, by simp; have := h.size; omega, ?_, ?_, ?_, ?_, ?_, ?_, ?_⟩
  · intro b hb' hA
    rw [old b (Nat.lt_of_lt_of_le hb' h.size)]
    exact h.keep b hb' hA
  · intro i ab' hi
    rcases cases' i ab' hi with ⟨rfl, rfl⟩ | ⟨hne, hi'⟩
    · exact hb
    · exact (h.blk i ab' hi').mono hle (hoth i hne) (fun b c' hv hr => old b (h.lt i ab' b c' hi' hv hr))
  · intro i ab' b c' hi hv hr
    rcases cases' i ab' hi with ⟨rfl, rfl⟩ | ⟨hne, hi'⟩
    · rw [hat] at hr; cases hr; exact .inr h.size
    · rw [hoth i hne] at hr; exact h.own i ab' b c' hi' hv hr
  · intro i ab' b c' hi hv hr
    rcases cases' i ab' hi with ⟨rfl, rfl⟩ | ⟨hne, hi'⟩
    · rw [hat] at hr; cases hr; simp
    · rw [hoth i hne] at hr
      have := h.lt i ab' b c' hi' hv hr
      simp; omega
  · intro i j ai aj b c' d hi hj hvi hvj hri hrj
    rcases cases' i ai hi with ⟨rfl, rfl⟩ | ⟨hnei, hi'⟩
    · rcases cases' j aj hj with ⟨rfl, rfl⟩ | ⟨hnej, hj'⟩
      · rfl
      · rw [hat] at hri; rw [hoth j hnej] at hrj
        have := h.lt j aj b d hj' hvj hrj
        cases hri; omega
    · rcases cases' j aj hj with ⟨rfl, rfl⟩ | ⟨hnej, hj'⟩
      · rw [hat] at hrj; rw [hoth i hnei] at hri
        have := h.lt i ai b c' hi' hvi hri
        cases hrj; omega
      · rw [hoth i hnei] at hri; rw [hoth j hnej] at hrj
        exact h.inj i j ai aj b c' d hi' hj' hvi hvj hri hrj
  · intro i hi
    have hlen : H.length ≤ H'.length ∧ (n < H'.length) := by
      rcases hfree with ⟨e, rfl⟩ | ⟨e, rfl⟩
      · subst e; simp
      · have : n < H.length := by
          rcases Nat.lt_or_ge n H.length with k | k
          · exact k
          · rw [List.getElem?_eq_none k] at e; cases e
        simp; exact this
    rw [hoth i (by omega)]
    exact h.out i (by omega)
  · intro a v e
    have e' := h.ro a v e
    refine ⟨(World.cell?_alloc_lt w o a e'.2.1).trans e'.1, by simp; have := e'.2.1; omega, fun i ab' b c' hi hv hr => ?_⟩
    rcases cases' i ab' hi with ⟨rfl, rfl⟩ | ⟨hne, hi'⟩
    · rw [hat] at hr; cases hr; have := e'.2.1; omega
    · rw [hoth i hne] at hr; exact e'.2.2 i ab' b c' hi' hv hr

/-- One live block is written. -/
theorem Sat.upd {g : G} {ρ : Env} {H : List AB} {w w' : World} (h : Sat g ρ H w) {i b : Nat} {c : Nat × Nat} {ab ab' : AB}
    (hi : H[i]? = some ab) (hv : ab.live = true) (hr : ρ i = some (b, c)) (hv' : ab'.live = true)
    (h1 : w'.os = w.os) (h2 : w'.tape = w.tape) (h3 : w'.output = w.output) (h4 : w'.heap.size = w.heap.size)
    (hh : ∀ k, k ≠ b → w'.heap[k]? = w.heap[k]?) (hb : BSat ρ i w' ab') : Sat g ρ (H.set i ab') w' := by
  have hil : i < H.length := by
    rcases Nat.lt_or_ge i H.length with k | k
    · exact k
    · rw [List.getElem?_eq_none k] at hi; cases hi
  have cases' : ∀ (j : Nat) (aj : AB), (H.set i ab')[j]? = some aj → (j = i ∧ aj = ab') ∨ (j ≠ i ∧ H[j]? = some aj) := by
    intro j aj hj
    by_cases k : j = i
    · subst k
      rw [List.getElem?_set] at hj
      simp [hil] at hj
      exact .inl ⟨rfl, hj.symm⟩
    · rw [List.getElem?_set_ne (Ne.symm k)] at hj
      exact .inr ⟨k, hj⟩
  have back : ∀ (j : Nat) (aj : AB), (H.set i ab')[j]? = some aj → aj.live = true → ∃ ak, H[j]? = some ak ∧ ak.live = true := by
    intro j aj hj hvj
    rcases cases' j aj hj with ⟨rfl, rfl⟩ | ⟨_, hj'⟩
    · exact ⟨ab, hi, hv⟩
    · exact ⟨aj, hj', hvj⟩
  refine ⟨h1.trans h.os, h2.trans h.tape, h3.trans h.output, by rw [h4]; exact h.size, ?_, ?_, ?_, ?_, ?_, ?_, ?_⟩
  · intro k hk hA
    have hne : k ≠ b := by
      rintro rfl
      rcases h.own i ab k c hi hv hr with q | q
      · exact hA q
      · omega
    rw [hh k hne]
    exact h.keep k hk hA
  · intro j aj hj
    rcases cases' j aj hj with ⟨rfl, rfl⟩ | ⟨hne, hj'⟩
    · exact hb
    · refine (h.blk j aj hj').mono (Env.le_refl _) rfl (fun b' c' hvj hrj => hh b' ?_)
      rintro rfl
      exact hne (h.inj j i aj ab b' c' c hj' hi hvj hv hrj hr)
  · intro j aj b' c' hj hvj hrj
    obtain ⟨ak, hk, hvk⟩ := back j aj hj hvj
    exact h.own j ak b' c' hk hvk hrj
  · intro j aj b' c' hj hvj hrj
    obtain ⟨ak, hk, hvk⟩ := back j aj hj hvj
    rw [h4]
    exact h.lt j ak b' c' hk hvk hrj
  · intro j k aj ak b' c' d hj hk hvj hvk hrj hrk
    obtain ⟨aj', hj', hvj'⟩ := back j aj hj hvj
    obtain ⟨ak', hk', hvk'⟩ := back k ak hk hvk
    exact h.inj j k aj' ak' b' c' d hj' hk' hvj' hvk' hrj hrk
  · intro j hj
    exact h.out j (by simpa using hj)
  · intro a v e
    have e' := h.ro a v e
    have hne : a.block ≠ b := Ne.symm (e'.2.2 i ab b c hi hv hr)
    refine ⟨?_, by rw [h4]; exact e'.2.1, fun j aj b' c' hj hvj hrj => ?_⟩
    · have := e'.1
      unfold World.cell? at *
      rw [hh _ hne]
      exact this
    · obtain ⟨ak, hk, hvk⟩ := back j aj hj hvj
      exact e'.2.2 j ak b' c' hk hvk hrj

end Go.Proofs.Ytmnpnnegnlhemaa.Eng
namespace Go.Proofs.Ytmnpnnegnlhemaa.Eng
open Go

/-- What an operation gives: under 'pre' the value and the heap behind it. -/
structure Res where
  pre : Prop
  val : SV
  heap : List AB

def no : Res := ⟨False, .junk, []⟩

def hget : List AB → Nat → AB
  | [], _ => .dead
  | a :: _, 0 => a
  | _ :: l, n + 1 => hget l n

def hset : List AB → Nat → AB → List AB
  | [], _, _ => []
  | _ :: l, 0, x => x :: l
  | a :: l, n + 1, x => a :: hset l n x

theorem hget_some : ∀ {H : List AB} {i : Nat}, (hget H i).live = true → H[i]? = some (hget H i)
  | [], _, h => by simp [hget, AB.live] at h
  | a :: _, 0, _ => by simp [hget]
  | _ :: l, n + 1, h => by simpa [hget] using hget_some (H := l) (i := n) (by simpa [hget] using h)

theorem hset_eq : ∀ (H : List AB) (i : Nat) (x : AB), hset H i x = H.set i x
  | [], _, _ => by simp [hset]
  | _ :: l, 0, x => by simp [hset]
  | a :: l, n + 1, x => by simp [hset, hset_eq l n x]

/-! ### Looks into the program's table -/
def tsize (P : Program) (t : TypeId) : Nat := P.cellsOf t
def tbytes (P : Program) (t : TypeId) : Nat := P.bytesOf t
def tknown (P : Program) (t : TypeId) : Bool := (P.info? t).isSome && (P.underlying t).isSome
def tagg (P : Program) (t : TypeId) : Bool := match P.underlying t with | some (.struct _) | some (.array _ _) => true | _ => false
def tzero (P : Program) (t : TypeId) : Option (List Value) := ((P.info? t).bind (·.zero)).map (·.cells.toList)
def telem (P : Program) (t : TypeId) : Option TypeId := match P.underlying t with | some (.slice e) => some e | _ => none
def tarr (P : Program) (t : TypeId) : Option (Nat × TypeId) := match P.underlying t with | some (.array n e) => some (n, e) | _ => none
/-- A field: its offset, its size, whether it is an aggregate. -/
def tfield (P : Program) (t : TypeId) (f : Nat) : Option (Nat × Nat × Bool) := match P.underlying t with
  | some (.struct fs) => (fs[f]?).bind fun x => if tknown P x.type then some (x.offset, tsize P x.type, tagg P x.type) else none
  | _ => none
def tint (P : Program) (t : TypeId) : Option IntKind := match P.underlying t with | some (.int k) => some k | _ => none
def tptr (P : Program) (t : TypeId) : Bool := match P.underlying t with | some (.pointer _) => true | _ => false

theorem run_sizeOf' {P : Program} {t : TypeId} (h : tknown P t = true) (w : World) : (sizeOf t).run P w = .ok (tsize P t) w := by
  unfold tknown at h
  cases hi : P.info? t with
  | none => simp [hi] at h
  | some i => simp [sizeOf, typeInfo, hi, tsize, Program.cellsOf]

theorem run_isAgg' {P : Program} {t : TypeId} (h : tknown P t = true) (w : World) : (isAgg t).run P w = .ok (tagg P t) w := by
  unfold tknown at h
  cases hu : P.underlying t with
  | none => simp [hu] at h
  | some d => cases d <;> simp [isAgg, run_underlying hu, tagg, hu]

/-! ### Numbers -/
def ibin (op : BinOp) (k : IntKind) (a b : Int) : Prop × Value :=
  match op with
  | .add => (True, .int k (k.wrap (a + b)))
  | .sub => (True, .int k (k.wrap (a - b)))
  | .mul => (True, .int k (k.wrap (a * b)))
  | .quo => (b ≠ 0, .int k (k.wrap (a.tdiv b)))
  | .rem => (b ≠ 0, .int k (a.tmod b))
  | .and => (True, .int k (bits .and k a b))
  | .or => (True, .int k (bits .or k a b))
  | .xor => (True, .int k (bits .xor k a b))
  | .andNot => (True, .int k (bits .andNot k a b))
  | .shl => (0 ≤ b, .int k (k.wrap (a * 2 ^ (min b.toNat k.bits))))
  | .shr => (0 ≤ b, .int k (a.fdiv (2 ^ (min b.toNat k.bits))))
  | .eql => (True, .bool (decide (a = b)))
  | .neq => (True, .bool (!decide (a = b)))
  | .lss => (True, .bool (decide (a < b)))
  | .leq => (True, .bool (decide (a ≤ b)))
  | .gtr => (True, .bool (decide (b < a)))
  | .geq => (True, .bool (decide (b ≤ a)))

def shiftOp : BinOp → Bool | .shl | .shr => true | _ => false

theorem run_ibin {P : Program} (op : BinOp) (t : TypeId) (k k' : IntKind) (a b : Int) (hk : shiftOp op = true ∨ k = k') (w : World) (h : (ibin op k a b).1) :
    (binOp op t (.int k a) (.int k' b)).run P w = .ok (ibin op k a b).2 w := by
  cases op <;> simp only [ibin, shiftOp, Bool.false_eq_true, false_or, true_or] at h hk ⊢ <;> (try subst hk) <;>
    first
    | (simp [go_sem, Op.intArith]; done)
    | (simp [go_sem, Op.intDiv, h]; done)
    | (simp only [binOp_shl, Op.shift, if_neg (show ¬ b < 0 by omega)]; rfl)
    | (simp only [binOp_shr, Op.shift, if_neg (show ¬ b < 0 by omega)]; rfl)
    | (simp only [binOp_eql, binOp_neq]; simp [bne, BEq.beq]; done)
    | (simp [binOp_gtr, binOp_geq, binOp_lss, binOp_leq]; done)

theorem run_eqGuard_int {P : Program} (op : BinOp) (t : TypeId) (x y : Operand) (k : IntKind) (a : Int) (v : Value) (w : World) : (eqGuard op t x y (.int k a) v).run P w = .ok () w := by
  cases op <;> rfl
theorem run_eqGuard_bool {P : Program} (op : BinOp) (t : TypeId) (x y : Operand) (a : Bool) (v : Value) (w : World) : (eqGuard op t x y (.bool a) v).run P w = .ok () w := by
  cases op <;> rfl
theorem run_eqGuard_ptr {P : Program} (op : BinOp) (t : TypeId) (x y : Operand) (a : Option Addr) (v : Value) (w : World) : (eqGuard op t x y (.pointer a) v).run P w = .ok () w := by
  cases op <;> rfl

/-- An aggregate of this type, held against another one by its cells: a fact of the program's table, laid once a type. -/
def StructEq (P : Program) (t : TypeId) (n : Nat) : Prop :=
  ∀ (x y : Operand) (xs ys : List Value) (w : World), xs.length = n → ys.length = n → (∀ v ∈ xs, ∃ a, v = .int .i64 a) → (∀ v ∈ ys, ∃ a, v = .int .i64 a) →
    (∀ op, (eqGuard op t x y (.agg xs.toArray) (.agg ys.toArray)).run P w = .ok () w) ∧
    ∃ b : Bool, (b = true ↔ xs = ys) ∧ (Op.equal t (.agg xs.toArray) (.agg ys.toArray)).run P w = .ok b w

def intsEq : List SV → List SV → Prop × Bool
  | [], [] => (True, true)
  | .raw (.int .i64 a) :: l, .raw (.int .i64 b) :: r => ((intsEq l r).1, decide (a = b) && (intsEq l r).2)
  | _, _ => (False, false)

theorem intsEq_spec {ρ : Env} : ∀ (l r : List SV) (xs ys : List Value), (intsEq l r).1 → RL ρ l xs → RL ρ r ys →
    (∀ v ∈ xs, ∃ a, v = .int .i64 a) ∧ (∀ v ∈ ys, ∃ a, v = .int .i64 a) ∧ xs.length = ys.length ∧ ((intsEq l r).2 = true ↔ xs = ys)
  | [], [], [], [], _, _, _ => by simp [intsEq]
  | [], [], _ :: _, _, _, h, _ => by simp only [RL] at h
  | [], [], [], _ :: _, _, _, h => by simp only [RL] at h
  | s :: l, s' :: r, [], _, _, h, _ => by simp only [RL] at h
  | s :: l, s' :: r, _ :: _, [], _, _, h => by simp only [RL] at h
  | s :: l, s' :: r, x :: xs, y :: ys, hp, h, h' => by
    unfold intsEq at hp ⊢
    split at hp
    · rename_i heq _; cases heq
    · rename_i a l' b r' e1 e2
      cases e1; cases e2
      simp only [RL, R] at h h'
      obtain ⟨rfl, h⟩ := h
      obtain ⟨rfl, h'⟩ := h'
      have ih := intsEq_spec l r xs ys hp h h'
      refine ⟨?_, ?_, by simp [ih.2.2.1], ?_⟩
      · intro v hv; rcases List.mem_cons.1 hv with rfl | hv
        · exact ⟨a, rfl⟩
        · exact ih.1 v hv
      · intro v hv; rcases List.mem_cons.1 hv with rfl | hv
        · exact ⟨b, rfl⟩
        · exact ih.2.1 v hv
      · simp [ih.2.2.2]
    · exact hp.elim
  | [], _ :: _, _, _, hp, _, _ => by simp [intsEq] at hp
  | _ :: _, [], _, _, hp, _, _ => by simp [intsEq] at hp

def sBin (P : Program) (H : List AB) (op : BinOp) (t : TypeId) : SV → SV → Res
  | .raw (.int k a), .raw (.int k' b) => ⟨(shiftOp op = true ∨ k = k') ∧ (ibin op k a b).1, .raw (ibin op k a b).2, H⟩
  | .raw (.bool a), .raw (.bool b) => match op with
    | .eql => ⟨P.underlying t = some .bool, .raw (.bool (a == b)), H⟩
    | .neq => ⟨P.underlying t = some .bool, .raw (.bool (!(a == b))), H⟩
    | _ => no
  | .raw (.pointer none), .raw (.pointer none) => match op with
    | .eql => ⟨tptr P t = true, .raw (.bool true), H⟩
    | .neq => ⟨tptr P t = true, .raw (.bool false), H⟩
    | _ => no
  | .ptr _ _, .raw (.pointer none) => match op with
    | .eql => ⟨tptr P t = true, .raw (.bool false), H⟩
    | .neq => ⟨tptr P t = true, .raw (.bool true), H⟩
    | _ => no
  | .agg l, .agg r => match op with
    | .eql => ⟨StructEq P t l.length ∧ (intsEq l r).1, .raw (.bool (intsEq l r).2), H⟩
    | .neq => ⟨StructEq P t l.length ∧ (intsEq l r).1, .raw (.bool (!(intsEq l r).2)), H⟩
    | _ => no
  | _, _ => no

theorem run_equal_bool {P : Program} {t : TypeId} (h : P.underlying t = some .bool) (a b : Bool) (w : World) : (Op.equal t (.bool a) (.bool b)).run P w = .ok (a == b) w := by
  have k : ∀ d : Nat, (Op.equalIn (d + 1) t (.bool a) (.bool b)).run P w = .ok (a == b) w := fun d => by
    simp [Op.equalIn, run_underlying h]
  exact k 9999
theorem run_eql_bool {P : Program} {t : TypeId} (h : P.underlying t = some .bool) (a b : Bool) (w : World) : (binOp .eql t (.bool a) (.bool b)).run P w = .ok (.bool (a == b)) w := by
  have e : binOp .eql t (.bool a) (.bool b) = (do pure (.bool (← Op.equal t (.bool a) (.bool b)))) := rfl
  rw [e]
  simp [run_equal_bool h]
theorem run_neq_bool {P : Program} {t : TypeId} (h : P.underlying t = some .bool) (a b : Bool) (w : World) : (binOp .neq t (.bool a) (.bool b)).run P w = .ok (.bool (!(a == b))) w := by
  have e : binOp .neq t (.bool a) (.bool b) = (do pure (.bool (!(← Op.equal t (.bool a) (.bool b))))) := rfl
  rw [e]
  simp [run_equal_bool h]
theorem run_equal_ptr {P : Program} {t : TypeId} (h : tptr P t = true) (a : Option Addr) (w : World) : (Op.equal t (.pointer a) (.pointer none)).run P w = .ok a.isNone w := by
  unfold tptr at h
  split at h
  · rename_i e hu
    have k : ∀ d : Nat, (Op.equalIn (d + 1) t (.pointer a) (.pointer none)).run P w = .ok a.isNone w := fun d => by
      cases a <;> simp [Op.equalIn, run_underlying hu]
    exact k 9999
  · cases h
theorem run_eql_ptr {P : Program} {t : TypeId} (h : tptr P t = true) (a : Option Addr) (w : World) : (binOp .eql t (.pointer a) (.pointer none)).run P w = .ok (.bool a.isNone) w := by
  have e : binOp .eql t (.pointer a) (.pointer none) = (do pure (.bool (← Op.equal t (.pointer a) (.pointer none)))) := by cases a <;> rfl
  rw [e]
  simp [run_equal_ptr h]
theorem run_neq_ptr {P : Program} {t : TypeId} (h : tptr P t = true) (a : Option Addr) (w : World) : (binOp .neq t (.pointer a) (.pointer none)).run P w = .ok (.bool (!a.isNone)) w := by
  have e : binOp .neq t (.pointer a) (.pointer none) = (do pure (.bool (!(← Op.equal t (.pointer a) (.pointer none))))) := by cases a <;> rfl
  rw [e]
  simp [run_equal_ptr h]
theorem run_eql_agg {P : Program} {t : TypeId} (a b : Array Value) (w : World) (r : Bool) (h : (Op.equal t (.agg a) (.agg b)).run P w = .ok r w) : (binOp .eql t (.agg a) (.agg b)).run P w = .ok (.bool r) w := by
  have e : binOp .eql t (.agg a) (.agg b) = (do pure (.bool (← Op.equal t (.agg a) (.agg b)))) := rfl
  rw [e]
  simp [h]
theorem run_neq_agg {P : Program} {t : TypeId} (a b : Array Value) (w : World) (r : Bool) (h : (Op.equal t (.agg a) (.agg b)).run P w = .ok r w) : (binOp .neq t (.agg a) (.agg b)).run P w = .ok (.bool (!r)) w := by
  have e : binOp .neq t (.agg a) (.agg b) = (do pure (.bool (!(← Op.equal t (.agg a) (.agg b))))) := rfl
  rw [e]
  simp [h]

theorem sBin_sound {P : Program} {ρ : Env} {H : List AB} {op : BinOp} {t : TypeId} {x y : SV} {vx vy : Value} (ox oy : Operand) (hx : R ρ x vx) (hy : R ρ y vy) (h : (sBin P H op t x y).pre) (w : World) :
    (sBin P H op t x y).heap = H ∧ ∃ v, (eqGuard op t ox oy vx vy).run P w = .ok () w ∧ (binOp op t vx vy).run P w = .ok v w ∧ R ρ (sBin P H op t x y).val v := by
  unfold sBin at h ⊢
  split at h
  · rename_i k a k' b
    simp only [R] at hx hy
    subst hx; subst hy
    exact ⟨rfl, _, run_eqGuard_int .., run_ibin op t k k' a b h.1 w h.2, by simp only [R]⟩
  · rename_i a b
    simp only [R] at hx hy
    subst hx; subst hy
    cases op <;> first | exact h.elim | skip
    · exact ⟨rfl, _, run_eqGuard_bool .., run_eql_bool h a b w, by simp only [R]⟩
    · exact ⟨rfl, _, run_eqGuard_bool .., run_neq_bool h a b w, by simp only [R]⟩
  · simp only [R] at hx hy
    subst hx; subst hy
    cases op <;> first | exact h.elim | skip
    · exact ⟨rfl, _, run_eqGuard_ptr .., run_eql_ptr h _ w, by simp [R]⟩
    · exact ⟨rfl, _, run_eqGuard_ptr .., run_neq_ptr h _ w, by simp [R]⟩
  · simp only [R] at hx hy
    obtain ⟨b, c, _, rfl⟩ := hx
    subst hy
    cases op <;> first | exact h.elim | skip
    · exact ⟨rfl, _, run_eqGuard_ptr .., run_eql_ptr h _ w, by simp [R]⟩
    · exact ⟨rfl, _, run_eqGuard_ptr .., run_neq_ptr h _ w, by simp [R]⟩
  · rename_i l r
    simp only [R] at hx hy
    obtain ⟨xs, rfl, hx⟩ := hx
    obtain ⟨ys, rfl, hy⟩ := hy
    cases op <;> first | exact h.elim | skip
    all_goals
      obtain ⟨h1, h2⟩ := h
      obtain ⟨i1, i2, i3, i4⟩ := intsEq_spec l r xs.toList ys.toList h2 hx hy
      obtain ⟨g1, b, g2, g3⟩ := h1 ox oy xs.toList ys.toList w hx.length.symm (i3 ▸ hx.length.symm) i1 i2
      have hb : b = (intsEq l r).2 := by
        rw [Bool.eq_iff_iff, g2, i4]
      simp only [Array.toArray_toList] at g1 g3
    · exact ⟨rfl, .bool b, g1 _, run_eql_agg _ _ _ _ g3, by simp only [R, hb]⟩
    · exact ⟨rfl, .bool (!b), g1 _, run_neq_agg _ _ _ _ g3, by simp only [R, hb]⟩
  · exact h.elim

def sUn (H : List AB) (op : UnOp) : SV → Res
  | .raw (.bool b) => match op with
    | .not => ⟨True, .raw (.bool (!b)), H⟩
    | _ => no
  | .raw (.int k n) => match op with
    | .neg => ⟨True, .raw (.int k (k.wrap (0 - n))), H⟩
    | .xor => ⟨True, .raw (.int k (bits .xor k (if k.signed then -1 else k.max) n)), H⟩
    | _ => no
  | _ => no

theorem sUn_sound {P : Program} {ρ : Env} {H : List AB} {op : UnOp} {x : SV} {vx : Value} (hx : R ρ x vx) (h : (sUn H op x).pre) (w : World) :
    (sUn H op x).heap = H ∧ ∃ v, (Op.unary op vx).run P w = .ok v w ∧ R ρ (sUn H op x).val v := by
  unfold sUn at h ⊢
  split at h
  · simp only [R] at hx; subst hx
    cases op <;> first | exact h.elim | skip
    exact ⟨rfl, _, rfl, by simp only [R]⟩
  · rename_i k n
    simp only [R] at hx; subst hx
    cases op <;> first | exact h.elim | skip
    · exact ⟨rfl, .int k (k.wrap (0 - n)), rfl, by simp only [R]⟩
    · exact ⟨rfl, .int k (bits .xor k (if k.signed then -1 else k.max) n), rfl, by simp only [R]⟩
  · exact h.elim

def sConv (P : Program) (H : List AB) (src dst : TypeId) : SV → Res
  | .raw (.int _ n) => match tint P src, tint P dst with
    | some _, some k => ⟨True, .raw (.int k (k.wrap n)), H⟩
    | _, _ => no
  | _ => no

theorem tint_some {P : Program} {t : TypeId} {k : IntKind} (h : tint P t = some k) : P.underlying t = some (.int k) := by
  unfold tint at h
  split at h
  · cases h; assumption
  · cases h

theorem sConv_sound {P : Program} {ρ : Env} {H : List AB} {src dst : TypeId} {x : SV} {vx : Value} (hx : R ρ x vx) (h : (sConv P H src dst x).pre) (w : World) :
    (sConv P H src dst x).heap = H ∧ ∃ v, (convert src dst vx).run P w = .ok v w ∧ R ρ (sConv P H src dst x).val v := by
  unfold sConv at h ⊢
  split at h
  · rename_i k0 n
    simp only [R] at hx; subst hx
    split at h
    · rename_i k1 k2 h1 h2
      refine ⟨rfl, .int k2 (k2.wrap n), ?_, by simp only [R]⟩
      simp [convert, run_underlying (tint_some h1), run_underlying (tint_some h2), Conv.intToInt]
    · exact h.elim
  · exact h.elim

end Go.Proofs.Ytmnpnnegnlhemaa.Eng
namespace Go.Proofs.Ytmnpnnegnlhemaa.Eng
open Go

theorem addr_add (b o n : Nat) : (⟨b, o, none⟩ : Addr).add n = ⟨b, o + n, none⟩ := by
  unfold Addr.add
  split
  · subst n; rfl
  · rfl

theorem cell_of (w : World) (b o : Nat) (a : Array Value) (t : TypeId) (fr : Nat × Nat) (h : w.heap[b]? = some (.cells a t fr)) : w.cell? ⟨b, o, none⟩ = a[o]? := by
  unfold World.cell?
  rw [h]
  rfl

/-! ### What lies at a pointer -/
def roCells (E : Addr → Option Value) (b o : Nat) : Nat → Prop × List SV
  | 0 => (True, [])
  | m + 1 => ((E ⟨b, o, none⟩).isSome = true ∧ (roCells E b (o + 1) m).1, .raw ((E ⟨b, o, none⟩).getD undef) :: (roCells E b (o + 1) m).2)

def cellsAt (E : Addr → Option Value) (H : List AB) : SV → Nat → Prop × List SV
  | .ptr i o, m => match hget H i with
    | .cells cs _ => (o + m ≤ cs.length, (cs.drop o).take m)
    | _ => (False, [])
  | .pel i sz k j, m => match hget H i with
    | .lst n sz' f _ => (k < n ∧ sz' = sz ∧ j + m ≤ sz ∧ j + m ≤ (f k).length, ((f k).drop j).take m)
    | _ => (False, [])
  | .raw (.pointer (some ⟨b, o, none⟩)), m => roCells E b o m
  | _, _ => (False, [])

theorem roCells_spec {g : G} {ρ : Env} {H : List AB} {w : World} (hs : Sat g ρ H w) (b : Nat) : ∀ (m o : Nat), (roCells g.E b o m).1 →
    ∃ vs : List Value, vs.length = m ∧ (∀ j x, vs[j]? = some x → w.cell? ⟨b, o + j, none⟩ = some x) ∧ RL ρ (roCells g.E b o m).2 vs
  | 0, o, _ => ⟨[], rfl, by simp, by simp [roCells, RL]⟩
  | m + 1, o, h => by
    simp only [roCells] at h ⊢
    obtain ⟨vs, h1, h2, h3⟩ := roCells_spec hs b m (o + 1) h.2
    obtain ⟨v, hv⟩ := Option.isSome_iff_exists.1 h.1
    refine ⟨v :: vs, by simp [h1], ?_, ?_⟩
    · intro j x hx
      cases j with
      | zero => simp at hx; subst hx; exact (hs.ro _ _ hv).1
      | succ j =>
        simp at hx
        have := h2 j x hx
        rwa [show o + 1 + j = o + (j + 1) by omega] at this
    · simp only [RL, R, hv, Option.getD_some, true_and]
      exact h3

theorem cellsAt_spec {g : G} {ρ : Env} {H : List AB} {w : World} (hs : Sat g ρ H w) {s : SV} {v : Value} (hv : R ρ s v) (m : Nat) (h : (cellsAt g.E H s m).1) :
    ∃ (b o : Nat) (vs : List Value), v = .pointer (some ⟨b, o, none⟩) ∧ vs.length = m ∧ (∀ j x, vs[j]? = some x → w.cell? ⟨b, o + j, none⟩ = some x) ∧ RL ρ (cellsAt g.E H s m).2 vs := by
  unfold cellsAt at h ⊢
  split at h
  · rename_i i o
    simp only [R] at hv
    obtain ⟨b, c, h1, h2⟩ := hv
    split at h
    · rename_i cs t hg
      have hb := hs.blk i _ (hget_some (H := H) (i := i) (by rw [hg]; rfl))
      rw [hg] at hb
      obtain ⟨b', c', a, e1, e2, e3⟩ := hb
      rw [h1] at e1; cases e1
      refine ⟨b, o, (a.toList.drop o).take m, h2, ?_, ?_, RL.take m (RL.drop o e3)⟩
      · have := e3.length
        simp at h ⊢
        simp at this
        omega
      · intro j x hx
        rw [cell_of w b (o + j) a t _ e2]
        rw [List.getElem?_take] at hx
        split at hx
        · simpa using hx
        · cases hx
    · exact h.elim
  · rename_i i sz k j
    simp only [R] at hv
    obtain ⟨b, c, h1, h2⟩ := hv
    split at h
    · rename_i n sz' f t hg
      obtain ⟨hk, rfl, hj, hl⟩ := h
      have hb := hs.blk i _ (hget_some (H := H) (i := i) (by rw [hg]; rfl))
      rw [hg] at hb
      rcases hb with ⟨e0, _⟩ | ⟨b', c', a, e1, e2, e3, e4, e5⟩
      · omega
      rw [h1] at e1; cases e1
      -- the cells, one by one
      have key : ∀ (l : List SV) (q : Nat), (∀ x s, l[x]? = some s → ∃ y, a[c.2 + k * sz' + q + x]? = some y ∧ R ρ s y) →
          ∃ vs : List Value, vs.length = l.length ∧ (∀ x y, vs[x]? = some y → a[c.2 + k * sz' + q + x]? = some y) ∧ RL ρ l vs := by
        intro l
        induction l with
        | nil => intro q _; exact ⟨[], rfl, by simp, by simp [RL]⟩
        | cons s l ih =>
          intro q hq
          obtain ⟨vs, i1, i2, i3⟩ := ih (q + 1) (fun x s hx => by
            have := hq (x + 1) s (by simpa using hx)
            rwa [show c.2 + k * sz' + q + (x + 1) = c.2 + k * sz' + (q + 1) + x by omega] at this)
          obtain ⟨y, hy, hr⟩ := hq 0 s (by simp)
          refine ⟨y :: vs, by simp [i1], ?_, by simp only [RL]; exact ⟨hr, i3⟩⟩
          intro x z hz
          cases x with
          | zero => simp at hz; subst hz; exact hy
          | succ x =>
            have := i2 x z (by simpa using hz)
            rwa [show c.2 + k * sz' + (q + 1) + x = c.2 + k * sz' + q + (x + 1) by omega] at this
      obtain ⟨vs, i1, i2, i3⟩ := key (((f k).drop j).take m) j (by
        intro x s hx
        rw [List.getElem?_take] at hx
        split at hx
        · rename_i hxm
          rw [List.getElem?_drop] at hx
          obtain ⟨y, hy, hr⟩ := e5 k (j + x) s hk (by omega) hx
          exact ⟨y, by rwa [show c.2 + k * sz' + j + x = c.2 + k * sz' + (j + x) by omega], hr⟩
        · cases hx)
      refine ⟨b, c.2 + k * sz' + j, vs, h2, ?_, ?_, i3⟩
      · rw [i1]; simp; omega
      · intro x y hy
        rw [cell_of w b _ a t _ e2]
        exact i2 x y hy
    · exact h.elim
  · rename_i b o
    simp only [R] at hv
    obtain ⟨vs, i1, i2, i3⟩ := roCells_spec hs b m o h
    exact ⟨b, o, vs, hv, i1, i2, i3⟩
  · exact h.elim

def hd1 : List SV → SV
  | [x] => x
  | _ => .junk

def sLoad (P : Program) (E : Addr → Option Value) (H : List AB) (t : TypeId) (a : SV) : Res :=
  match tagg P t with
  | true => ⟨tknown P t = true ∧ (cellsAt E H a (tsize P t)).1, .agg (cellsAt E H a (tsize P t)).2, H⟩
  | false => ⟨tknown P t = true ∧ (cellsAt E H a 1).1, hd1 (cellsAt E H a 1).2, H⟩

theorem sLoad_sound {P : Program} {g : G} {ρ : Env} {H : List AB} {w : World} (hs : Sat g ρ H w) {t : TypeId} {s : SV} {v : Value} (hv : R ρ s v) (h : (sLoad P g.E H t s).pre) :
    (sLoad P g.E H t s).heap = H ∧ ∃ x, (∀ w' : World, w'.heap = w.heap → (Instr.loadAt t v).run P w' = .ok x w') ∧ R ρ (sLoad P g.E H t s).val x := by
  have cellw : ∀ (w' : World), w'.heap = w.heap → ∀ a, w'.cell? a = w.cell? a := fun w' e a => by unfold World.cell?; rw [e]
  unfold sLoad at h ⊢
  cases ht : tagg P t with
  | true =>
    rw [ht] at h
    obtain ⟨b, o, vs, rfl, h1, h2, h3⟩ := cellsAt_spec hs hv _ h.2
    refine ⟨rfl, .agg vs.toArray, fun w' e => ?_, by simp only [R]; exact ⟨_, rfl, by simpa using h3⟩⟩
    have hl := run_loadCells_list (P := P) w' ⟨b, o, none⟩ vs (fun j x hx => by rw [addr_add, cellw w' e]; exact h2 j x hx)
    rw [h1] at hl
    simp [Instr.loadAt, Instr.sureAddr, loadVar, run_isAgg' h.1, run_sizeOf' h.1, ht, hl]
  | false =>
    rw [ht] at h
    obtain ⟨b, o, vs, rfl, h1, h2, h3⟩ := cellsAt_spec hs hv _ h.2
    match vs, h1 with
    | [x], _ =>
      have h4 := h2 0 x (by simp)
      refine ⟨rfl, x, fun w' e => ?_, ?_⟩
      · have h5 : w'.cell? ⟨b, o, none⟩ = some x := by rw [cellw w' e]; simpa using h4
        simp [Instr.loadAt, Instr.sureAddr, loadVar, run_isAgg' h.1, ht, h5]
      · generalize (cellsAt g.E H s 1).2 = l at h3
        match l, h3 with
        | [y], h3 =>
          simp only [RL] at h3
          exact h3.1

/-! ### Stores -/
def vcells : SV → List SV
  | .agg cs => cs
  | v => [v]

def one : SV → Bool
  | .raw v => v.oneCell'
  | .ptr _ _ | .pel _ _ _ _ | .lst _ _ _ _ | .mapv _ | .fn _ _ _ => true
  | _ => false

theorem one_spec {ρ : Env} {s : SV} {v : Value} (h : one s = true) (hv : R ρ s v) : v.oneCell' = true ∧ v.cells = #[v] ∧ vcells s = [s] := by
  cases s <;> simp only [one, R, Bool.false_eq_true] at h hv
  · subst hv; cases v <;> simp_all [Value.oneCell', Value.cells, vcells]
  · obtain ⟨b, c, _, rfl⟩ := hv; exact ⟨rfl, rfl, rfl⟩
  · obtain ⟨b, c, _, rfl⟩ := hv; exact ⟨rfl, rfl, rfl⟩
  · rcases hv with ⟨_, rfl⟩ | ⟨b, c, a, _, _, rfl, _⟩ <;> exact ⟨rfl, rfl, rfl⟩
  · obtain ⟨b, c, _, rfl⟩ := hv; exact ⟨rfl, rfl, rfl⟩
  · obtain ⟨b, c, rfl, _⟩ := hv; exact ⟨rfl, rfl, rfl⟩

theorem vcells_spec {ρ : Env} {s : SV} {v : Value} (h : ((vcells s).all one) = true) (hv : R ρ s v) : RL ρ (vcells s) v.cells.toList ∧ ∀ u ∈ v.cells.toList, u.oneCell' = true := by
  have all1 : ∀ (l : List SV) (r : List Value), RL ρ l r → l.all one = true → ∀ u ∈ r, u.oneCell' = true := by
    intro l
    induction l with
    | nil => intro r hr _; cases r with
      | nil => simp
      | cons _ _ => simp only [RL] at hr
    | cons s l ih => intro r hr ha; cases r with
      | nil => simp only [RL] at hr
      | cons x r =>
        simp only [RL] at hr
        simp only [List.all_cons, Bool.and_eq_true] at ha
        intro u hu
        rcases List.mem_cons.1 hu with rfl | hu
        · exact (one_spec ha.1 hr.1).1
        · exact ih r hr.2 ha.2 u hu
  cases s with
  | agg cs =>
    simp only [R] at hv
    obtain ⟨a, rfl, h2⟩ := hv
    exact ⟨h2, all1 _ _ h2 h⟩
  | _ =>
    simp only [vcells, List.all_cons, List.all_nil, Bool.and_true] at h
    obtain ⟨h1, h2, _⟩ := one_spec h hv
    rw [h2]
    exact ⟨by simp only [vcells, RL]; exact ⟨hv, trivial⟩, by simpa using h1⟩

def splice (cs : List SV) (o : Nat) (vs : List SV) : List SV := cs.take o ++ vs ++ cs.drop (o + vs.length)

def sStore (P : Program) (H : List AB) (t : TypeId) (a v : SV) : Res :=
  match a with
  | .ptr i o => match hget H i with
    | .cells cs ty => ⟨tknown P t = true ∧ (vcells v).all one = true ∧ (vcells v).length = tsize P t ∧ o + (vcells v).length ≤ cs.length, .junk, hset H i (.cells (splice cs o (vcells v)) ty)⟩
    | _ => no
  | .pel i sz k j => match hget H i with
    | .lst n sz' f ty => ⟨tknown P t = true ∧ (vcells v).all one = true ∧ (vcells v).length = tsize P t ∧ k < n ∧ sz' = sz ∧ j + (vcells v).length ≤ sz ∧ (f k).length = sz,
        .junk, hset H i (.lst n sz' (fun k' => if k' = k then splice (f k) j (vcells v) else f k') ty)⟩
    | _ => no
  | _ => no

theorem splice_get {α : Type} (l vs : List α) (o : Nat) (h : o + vs.length ≤ l.length) (x : Nat) :
    (l.take o ++ vs ++ l.drop (o + vs.length))[x]? = if x < o then l[x]? else if x < o + vs.length then vs[x - o]? else l[x]? := by
  by_cases h1 : x < o
  · rw [if_pos h1, List.append_assoc, List.getElem?_append_left (by simp; omega), List.getElem?_take, if_pos h1]
  · rw [if_neg h1]
    by_cases h2 : x < o + vs.length
    · rw [if_pos h2, List.append_assoc, List.getElem?_append_right (by simp; omega), List.getElem?_append_left (by simp; omega)]
      congr 1; simp; omega
    · rw [if_neg h2, List.getElem?_append_right (by simp; omega), List.getElem?_drop]
      congr 1; simp; omega

theorem sStore_sound {P : Program} {g : G} {ρ : Env} {H : List AB} {w : World} (hs : Sat g ρ H w) {t : TypeId} {s u : SV} {vs vu : Value} (ha : R ρ s vs) (hv : R ρ u vu) (h : (sStore P H t s u).pre) :
    ∃ w', (Instr.storeAt t vs vu).run P w = .ok () w' ∧ Sat g ρ (sStore P H t s u).heap w' := by
  -- the store itself
  have go : ∀ (b o : Nat) (a : Array Value) (ty : TypeId), w.heap[b]? = some (.cells a ty (0, 0)) → tknown P t = true → (∀ x ∈ vu.cells.toList, x.oneCell' = true) → vu.cells.size = tsize P t → o + vu.cells.toList.length ≤ a.size →
      (Instr.storeAt t (.pointer (some ⟨b, o, none⟩)) vu).run P w = .ok () (w.setRow b (a.toList.take o ++ vu.cells.toList ++ a.toList.drop (o + vu.cells.toList.length)).toArray) := by
    intro b o a ty hb hk h1 hz hl
    have hst := run_storeCells_at (P := P) b o ty vu.cells.toList 0 a w hb (by simpa using hl) h1
    simp only [Nat.add_zero] at hst
    simp [Instr.storeAt, Instr.sureAddr, storeVar, run_sizeOf' hk, hz, hst]
  unfold sStore at h ⊢
  split at h
  · rename_i i o
    simp only [R] at ha
    obtain ⟨b, c, h1, rfl⟩ := ha
    split at h
    · rename_i cs ty hg
      obtain ⟨hk, hall, hz, hl⟩ := h
      have hi := hget_some (H := H) (i := i) (by rw [hg]; rfl)
      have hb := hs.blk i _ hi
      rw [hg] at hb hi
      obtain ⟨b', c', a, e1, e2, e3⟩ := hb
      rw [h1] at e1; cases e1
      obtain ⟨r1, r2⟩ := vcells_spec hall hv
      have hl1 := r1.length
      have hl2 := e3.length
      refine ⟨_, go b o a ty e2 hk r2 (by simp at hl1; omega) (by simp at hl2; omega), ?_⟩
      simp only [hset_eq]
      refine hs.upd hi rfl h1 rfl rfl rfl rfl (by simp) (fun k hne => setRow_other w b k _ hne) ?_
      refine ⟨b, c, _, h1, setRow_heap w b a _ ty _ e2, ?_⟩
      unfold splice
      rw [hl1]
      exact (RL.append (RL.append (RL.take o e3) r1) (RL.drop _ e3))
    · exact h.elim
  · rename_i i sz k j
    simp only [R] at ha
    obtain ⟨b, c, h1, rfl⟩ := ha
    split at h
    · rename_i n sz' f ty hg
      obtain ⟨hk, hall, hz, hkn, rfl, hj, hf⟩ := h
      have hi := hget_some (H := H) (i := i) (by rw [hg]; rfl)
      have hb := hs.blk i _ hi
      rw [hg] at hb hi
      rcases hb with ⟨e0, _⟩ | ⟨b', c', a, e1, e2, e3, e4, e5⟩
      · omega
      rw [h1] at e1; cases e1
      obtain ⟨r1, r2⟩ := vcells_spec hall hv
      have hl1 := r1.length
      have hks : k * sz' + sz' ≤ c.1 * sz' := by
        have := Nat.mul_le_mul_right sz' (show k + 1 ≤ c.1 by omega)
        rwa [Nat.succ_mul] at this
      have hfit : c.2 + k * sz' + j + vu.cells.toList.length ≤ a.size := by rw [e4, ← hl1]; omega
      refine ⟨_, go b (c.2 + k * sz' + j) a ty e2 hk r2 (by simp at hl1; omega) hfit, ?_⟩
      simp only [hset_eq]
      refine hs.upd hi rfl h1 rfl rfl rfl rfl (by simp) (fun k hne => setRow_other w b k _ hne) ?_
      refine .inr ⟨b, c, _, h1, setRow_heap w b a _ ty _ e2, e3, ?_, ?_⟩
      · simp only [List.size_toArray, List.length_append, List.length_take, List.length_drop, Array.length_toList]
        simp only [Array.length_toList] at hfit
        omega
      · intro k' j' s' hk' hj' hf'
        rw [List.getElem?_toArray, splice_get _ _ _ (by simpa using hfit)]
        by_cases hkk : k' = k
        · subst hkk
          simp only [if_true] at hf'
          unfold splice at hf'
          rw [splice_get _ _ _ (by omega)] at hf'
          by_cases q1 : j' < j
          · rw [if_pos q1] at hf'
            rw [if_pos (by omega)]
            obtain ⟨x, hx, hr⟩ := e5 k' j' s' hk' hj' hf'
            exact ⟨x, by simpa using hx, hr⟩
          · rw [if_neg q1] at hf'
            by_cases q2 : j' < j + (vcells u).length
            · rw [if_pos q2] at hf'
              rw [if_neg (by omega), if_pos (by omega)]
              obtain ⟨x, hx, hr⟩ := r1.get _ _ hf'
              exact ⟨x, by rwa [show c.2 + k' * sz' + j' - (c.2 + k' * sz' + j) = j' - j by omega], hr⟩
            · rw [if_neg q2] at hf'
              rw [if_neg (by omega), if_neg (by omega)]
              obtain ⟨x, hx, hr⟩ := e5 k' j' s' hk' hj' hf'
              exact ⟨x, by simpa using hx, hr⟩
        · simp only [if_neg hkk] at hf'
          obtain ⟨x, hx, hr⟩ := e5 k' j' s' hk' hj' hf'
          refine ⟨x, ?_, hr⟩
          rcases Nat.lt_or_ge k' k with q | q
          · have hm : k' * sz' + sz' ≤ k * sz' := by
              have := Nat.mul_le_mul_right sz' (show k' + 1 ≤ k by omega)
              rwa [Nat.succ_mul] at this
            rw [if_pos (by omega)]
            simpa using hx
          · have hm : k * sz' + sz' ≤ k' * sz' := by
              have := Nat.mul_le_mul_right sz' (show k + 1 ≤ k' by omega)
              rwa [Nat.succ_mul] at this
            rw [if_neg (by omega), if_neg (by omega)]
            simpa using hx
    · exact h.elim
  · exact h.elim

end Go.Proofs.Ytmnpnnegnlhemaa.Eng
namespace Go.Proofs.Ytmnpnnegnlhemaa.Eng
open Go

/-! ### Addresses -/
def sField (P : Program) (H : List AB) (t : TypeId) (f : Nat) (a : SV) : Res :=
  match tfield P t f with
  | some (off, sz, _) => match a with
    | .ptr i o => ⟨sz ≠ 0, .ptr i (o + off), H⟩
    | .pel i s k j => ⟨sz ≠ 0, .pel i s k (j + off), H⟩
    | .raw (.pointer (some ⟨b, o, none⟩)) => ⟨sz ≠ 0, .raw (.pointer (some ⟨b, o + off, none⟩)), H⟩
    | _ => no
  | none => no

theorem tfield_some {P : Program} {t : TypeId} {f : Nat} {x : Nat × Nat × Bool} (h : tfield P t f = some x) :
    ∃ fs fd, P.underlying t = some (.struct fs) ∧ fs[f]? = some fd ∧ tknown P fd.type = true ∧ x = (fd.offset, tsize P fd.type, tagg P fd.type) := by
  unfold tfield at h
  split at h
  · rename_i fs hu
    cases hf : fs[f]? with
    | none => simp [hf] at h
    | some fd =>
      simp only [hf, Option.bind_some] at h
      split at h
      · rename_i hk
        cases h
        exact ⟨fs, fd, hu, hf, hk, rfl⟩
      · cases h
  · cases h

theorem sField_sound {P : Program} {ρ : Env} {H : List AB} {t : TypeId} {f : Nat} {s : SV} {v : Value} (hv : R ρ s v) (h : (sField P H t f s).pre) :
    (sField P H t f s).heap = H ∧ ∃ x, (∀ w, (Instr.fieldAt t v f).run P w = .ok x w) ∧ R ρ (sField P H t f s).val x := by
  unfold sField at h ⊢
  cases ht : tfield P t f with
  | none => rw [ht] at h; exact h.elim
  | some x =>
    rw [ht] at h
    obtain ⟨fs, fd, hu, hf, hk, rfl⟩ := tfield_some ht
    have go : ∀ (b o : Nat) (w : World), tsize P fd.type ≠ 0 → (Instr.fieldAt t (.pointer (some ⟨b, o, none⟩)) f).run P w = .ok (.pointer (some ⟨b, o + fd.offset, none⟩)) w := by
      intro b o w hz
      simp [Instr.fieldAt, run_underlying hu, hf, Instr.sureAddr, fieldPlace, run_sizeOf' hk, hz, addr_add]
    simp only at h ⊢
    split at h
    · simp only [R] at hv
      obtain ⟨b, c, h1, rfl⟩ := hv
      exact ⟨rfl, _, fun w => go b _ w h, by simp only [R]; exact ⟨b, c, h1, rfl⟩⟩
    · simp only [R] at hv
      obtain ⟨b, c, h1, rfl⟩ := hv
      exact ⟨rfl, _, fun w => go b _ w h, by simp only [R]; exact ⟨b, c, h1, by rw [Nat.add_assoc]⟩⟩
    · simp only [R] at hv
      subst hv
      exact ⟨rfl, _, fun w => go _ _ w h, by simp only [R]⟩
    · exact h.elim

/-- A part of an aggregate. -/
def sPart (P : Program) (H : List AB) (t : TypeId) (f : Nat) (a : SV) : Res :=
  match tfield P t f with
  | some (off, sz, ag) => match a with
    | .agg cs => match ag with
      | true => ⟨off + sz ≤ cs.length, .agg ((cs.drop off).take sz), H⟩
      | false => ⟨off < cs.length, hd1 ((cs.drop off).take 1), H⟩
    | _ => no
  | none => no

theorem sPart_sound {P : Program} {ρ : Env} {H : List AB} {t : TypeId} {f : Nat} {s : SV} {v : Value} (hv : R ρ s v) (h : (sPart P H t f s).pre) :
    (sPart P H t f s).heap = H ∧ ∃ x, (∀ w, (Instr.field t v f).run P w = .ok x w) ∧ R ρ (sPart P H t f s).val x := by
  unfold sPart at h ⊢
  cases ht : tfield P t f with
  | none => rw [ht] at h; exact h.elim
  | some x =>
    rw [ht] at h
    obtain ⟨fs, fd, hu, hf, hk, rfl⟩ := tfield_some ht
    simp only at h ⊢
    split at h
    · rename_i cs
      simp only [R] at hv
      obtain ⟨a, rfl, ha⟩ := hv
      cases hg : tagg P fd.type with
      | true =>
        rw [hg] at h
        refine ⟨rfl, .agg (a.extract fd.offset (fd.offset + tsize P fd.type)), fun w => ?_, ?_⟩
        · simp [Instr.field, run_underlying hu, hf, asAgg, part, run_isAgg' hk, run_sizeOf' hk, hg]
        · simp only [R]
          refine ⟨_, rfl, ?_⟩
          rw [Array.toList_extract]
          simp only [List.extract_eq_take_drop, Nat.add_sub_cancel_left]
          exact RL.take _ (RL.drop _ ha)
      | false =>
        rw [hg] at h
        have hl := ha.length
        have hlt : fd.offset < a.size := by simp at hl; simp at h; omega
        refine ⟨rfl, a[fd.offset], fun w => ?_, ?_⟩
        · simp [Instr.field, run_underlying hu, hf, asAgg, part, run_isAgg' hk, hg, hlt]
        · have hd := RL.take 1 (RL.drop fd.offset ha)
          have e : (a.toList.drop fd.offset).take 1 = [a[fd.offset]] := by
            rw [List.drop_eq_getElem_cons (by simpa using hlt)]
            simp
          rw [e] at hd
          simp only
          generalize (cs.drop fd.offset).take 1 = l at hd ⊢
          match l, hd with
          | [y], hd => simp only [RL] at hd; exact hd.1
          | [], hd => simp only [RL] at hd
          | _ :: _ :: _, hd => simp only [RL] at hd; exact hd.2.elim
    · exact h.elim

def sIndex (P : Program) (H : List AB) (t : TypeId) (x : SV) (ix : SV) : Res :=
  match ix with
  | .raw (.int _ n) => match x with
    | .lst i sz off len => match telem P t with
      | some e => ⟨(tknown P e = true ∧ tsize P e = sz) ∧ 0 ≤ n ∧ n < (len : Int), .pel i sz (off + n.toNat) 0, H⟩
      | none => no
    | .raw (.slice (some ⟨b, o, none⟩) len _) => match telem P t with
      | some e => ⟨tknown P e = true ∧ 0 ≤ n ∧ n < (len : Int), .raw (.pointer (some ⟨b, o + n.toNat * tsize P e, none⟩)), H⟩
      | none => no
    | .ptr i o => match tarr P t with
      | some (len, e) => ⟨tknown P e = true ∧ 0 ≤ n ∧ n < (len : Int), .ptr i (o + n.toNat * tsize P e), H⟩
      | none => no
    | _ => no
  | _ => no

theorem telem_some {P : Program} {t e : TypeId} (h : telem P t = some e) : P.underlying t = some (.slice e) := by
  unfold telem at h
  split at h
  · cases h; assumption
  · cases h
theorem tarr_some {P : Program} {t : TypeId} {x : Nat × TypeId} (h : tarr P t = some x) : P.underlying t = some (.array x.1 x.2) := by
  unfold tarr at h
  split at h
  · cases h; assumption
  · cases h

theorem sIndex_sound {P : Program} {ρ : Env} {H : List AB} {t : TypeId} {s ix : SV} {v vi : Value} (hv : R ρ s v) (hi : R ρ ix vi) (h : (sIndex P H t s ix).pre) :
    (sIndex P H t s ix).heap = H ∧ ∃ x, (∀ w, (Instr.indexAt t v vi).run P w = .ok x w) ∧ R ρ (sIndex P H t s ix).val x := by
  unfold sIndex at h ⊢
  split at h
  · rename_i k n
    simp only [R] at hi
    subst hi
    split at h
    · rename_i i sz off len
      split at h
      · rename_i e he
        obtain ⟨⟨hk, rfl⟩, h0, h1⟩ := h
        simp only [R] at hv
        rcases hv with ⟨rfl, _⟩ | ⟨b, c, a, e1, e2, rfl, e4⟩
        · simp at h1; omega
        · have ha := e4 (by omega)
          subst ha
          refine ⟨rfl, .pointer (some ⟨b, c.2 + off * tsize P e + n.toNat * tsize P e, none⟩), fun w => ?_, ?_⟩
          · simp [Instr.indexAt, asIntOf, run_underlying (telem_some he), h0, h1, run_sizeOf' hk, addr_add]
          · simp only [R]
            refine ⟨b, c, e1, ?_⟩
            rw [Nat.add_mul]
            simp only [Nat.add_zero, Nat.add_assoc]
      · exact h.elim
    · rename_i b o len cap
      split at h
      · rename_i e he
        obtain ⟨hk, h0, h1⟩ := h
        simp only [R] at hv
        subst hv
        refine ⟨rfl, _, fun w => ?_, by simp only [R]; rfl⟩
        simp [Instr.indexAt, asIntOf, run_underlying (telem_some he), h0, h1, run_sizeOf' hk, addr_add]
      · exact h.elim
    · rename_i i o
      split at h
      · rename_i len e he
        obtain ⟨hk, h0, h1⟩ := h
        simp only [R] at hv
        obtain ⟨b, c, e1, rfl⟩ := hv
        refine ⟨rfl, .pointer (some ⟨b, o + n.toNat * tsize P e, none⟩), fun w => ?_, by simp only [R]; exact ⟨b, c, e1, rfl⟩⟩
        have hu := tarr_some he
        simp [Instr.indexAt, asIntOf, run_underlying hu, h0, h1, run_sizeOf' hk, addr_add, Instr.sureAddr]
      · exact h.elim
    · exact h.elim
  · exact h.elim

def sLen (P : Program) (H : List AB) (t : TypeId) (x : SV) : Res :=
  match telem P t with
  | some _ => match x with
    | .lst _ _ _ len => ⟨True, .raw (.int .i64 (len : Int)), H⟩
    | .raw (.slice _ len _) => ⟨True, .raw (.int .i64 (len : Int)), H⟩
    | _ => no
  | none => no

theorem sLen_sound {P : Program} {ρ : Env} {H : List AB} {t ty : TypeId} {s : SV} {v : Value} (hv : R ρ s v) (h : (sLen P H t s).pre) :
    (sLen P H t s).heap = H ∧ ∃ x, (∀ w, (Builtin.len_ #[t] ty #[v]).run P w = .ok x w) ∧ R ρ (sLen P H t s).val x := by
  unfold sLen at h ⊢
  split at h
  · rename_i e he
    split at h
    · rename_i i sz off len
      simp only [R] at hv
      refine ⟨rfl, .int .i64 (len : Int), fun w => ?_, by simp only [R]⟩
      rcases hv with ⟨rfl, rfl⟩ | ⟨b, c, a, e1, e2, rfl, e4⟩
      · simp [Builtin.len_, run_underlying (telem_some he), goInt]
      · simp [Builtin.len_, run_underlying (telem_some he), goInt]
    · rename_i a len cap
      simp only [R] at hv
      subst hv
      refine ⟨rfl, .int .i64 (len : Int), fun w => ?_, by simp only [R]⟩
      cases a <;> simp [Builtin.len_, run_underlying (telem_some he), goInt]
    · exact h.elim
  · exact h.elim

/-- x[lo:] -/
def sSlice (P : Program) (H : List AB) (t : TypeId) (x lo : SV) : Res :=
  match telem P t with
  | some e => match lo with
    | .raw (.int _ n) => match x with
      | .lst i sz off len => ⟨(tknown P e = true ∧ tsize P e = sz) ∧ 0 ≤ n ∧ n ≤ (len : Int), .lst i sz (off + n.toNat) (len - n.toNat), H⟩
      | _ => no
    | _ => no
  | none => no

theorem sSlice_sound {P : Program} {ρ : Env} {H : List AB} {t : TypeId} {s lo : SV} {v vl : Value} (hv : R ρ s v) (hl : R ρ lo vl) (h : (sSlice P H t s lo).pre) :
    (sSlice P H t s lo).heap = H ∧ ∃ x, (∀ w, (Instr.sliceAt t v (some vl) none none).run P w = .ok x w) ∧ R ρ (sSlice P H t s lo).val x := by
  unfold sSlice at h ⊢
  split at h
  · rename_i e he
    split at h
    · rename_i k n
      split at h
      · rename_i i sz off len
        obtain ⟨⟨hk, rfl⟩, h0, h1⟩ := h
        simp only [R] at hv hl
        subst hl
        rcases hv with ⟨rfl, rfl⟩ | ⟨b, c, a, e1, e2, rfl, e4⟩
        · have hn : n = 0 := by simp at h1; omega
          subst hn
          refine ⟨rfl, .slice none 0 0, fun w => ?_, by simp [R]⟩
          simp [Instr.sliceAt, run_underlying (telem_some he), Instr.slice, Instr.sliceBounds, Instr.sliceBound, asIntOf, run_sizeOf' hk]
        · refine ⟨rfl, .slice (if c.1 - off = n.toNat then some a else (some a).map (·.add (n.toNat * tsize P e))) (len - n.toNat) (c.1 - off - n.toNat), fun w => ?_, ?_⟩
          · simp [Instr.sliceAt, run_underlying (telem_some he), Instr.slice, Instr.sliceBounds, Instr.sliceBound, asIntOf, run_sizeOf' hk, h0, h1]
          · simp only [R]
            have hnl : n.toNat ≤ len := by omega
            refine .inr ⟨b, c, if c.1 - off = n.toNat then a else a.add (n.toNat * tsize P e), e1, by omega, ?_, ?_⟩
            · rw [Nat.sub_sub]
              split <;> rfl
            · intro hlt
              rw [if_neg (by omega), e4 (by omega), addr_add, Nat.add_mul, Nat.add_assoc]
      · exact h.elim
    · exact h.elim
  · exact h.elim

/-! ### New blocks of known cells -/
theorem heap_new (w : World) (o : Obj) : (w.alloc o).heap[w.heap.size]? = some o := by
  show (w.heap.push o)[w.heap.size]? = _
  simp

/-- Where a new block goes: behind all others, or into a hole that waits for it. -/
def isHole : AB → Bool
  | .hole => true
  | _ => false
def holeAt (H : List AB) : Option Nat → Prop
  | none => True
  | some i => isHole (hget H i) = true
def idxAt (H : List AB) : Option Nat → Nat
  | none => H.length
  | some i => i
def pushAt (H : List AB) (ab : AB) : Option Nat → List AB
  | none => H ++ [ab]
  | some i => hset H i ab

theorem hget_hole : ∀ {H : List AB} {i : Nat}, isHole (hget H i) = true → H[i]? = some .hole
  | [], _, h => by simp [hget, isHole] at h
  | a :: _, 0, h => by
    simp only [hget] at h
    cases a <;> simp [isHole] at h
    simp
  | _ :: l, n + 1, h => by simpa [hget] using hget_hole (H := l) (i := n) (by simpa [hget] using h)

theorem Sat.newAt {g : G} {ρ : Env} {H : List AB} {w : World} (h : Sat g ρ H w) (q : Option Nat) (hq : holeAt H q) (c : Nat × Nat) (ab : AB) (o : Obj)
    (hb : Env.le ρ (ρ.ext (idxAt H q) (w.heap.size, c)) → BSat (ρ.ext (idxAt H q) (w.heap.size, c)) (idxAt H q) (w.alloc o) ab) :
    Env.le ρ (ρ.ext (idxAt H q) (w.heap.size, c)) ∧ Sat g (ρ.ext (idxAt H q) (w.heap.size, c)) (pushAt H ab q) (w.alloc o) := by
  have hn : ρ (idxAt H q) = none := by
    cases q with
    | none => exact h.out H.length (Nat.le_refl _)
    | some i =>
      have := h.blk i _ (hget_hole hq)
      exact this
  have hle := Env.le_ext (x := (w.heap.size, c)) hn
  refine ⟨hle, h.new (c := c) o hn ?_ (hb hle)⟩
  cases q with
  | none => exact .inl ⟨rfl, rfl⟩
  | some i => exact .inr ⟨hget_hole hq, by simp [pushAt, hset_eq, idxAt]⟩

def sNew (H : List AB) (q : Option Nat) (cs : List SV) (t : TypeId) : Res := ⟨holeAt H q, .ptr (idxAt H q) 0, pushAt H (.cells cs t) q⟩

theorem sNew_sat {g : G} {ρ : Env} {H : List AB} {w : World} (hs : Sat g ρ H w) (q : Option Nat) (hq : holeAt H q) (cs : List SV) (vs : Array Value) (t : TypeId) (hr : RL ρ cs vs.toList) :
    ∃ ρ', Env.le ρ ρ' ∧ Sat g ρ' (pushAt H (.cells cs t) q) (w.alloc (.cells vs t)) ∧ R ρ' (.ptr (idxAt H q) 0) (.pointer (some ⟨w.heap.size, 0, none⟩)) := by
  have hat : (ρ.ext (idxAt H q) (w.heap.size, (0, 0))) (idxAt H q) = some (w.heap.size, (0, 0)) := by simp [Env.ext]
  obtain ⟨k1, k2⟩ := hs.newAt q hq (0, 0) (.cells cs t) (.cells vs t) (fun hle => ⟨_, _, vs, hat, heap_new w _, RL.mono hle _ _ hr⟩)
  exact ⟨_, k1, k2, by simp only [R]; exact ⟨_, _, hat, rfl⟩⟩

def sAlloc (P : Program) (H : List AB) (q : Option Nat) (t : TypeId) : Res :=
  match tzero P t with
  | some z => sNew H q (z.map SV.raw) t
  | none => no

theorem tzero_some {P : Program} {t : TypeId} {z : List Value} (h : tzero P t = some z) : ∃ i v, P.info? t = some i ∧ i.zero = some v ∧ v.cells.toList = z := by
  unfold tzero at h
  cases hi : P.info? t with
  | none => simp [hi] at h
  | some i =>
    cases hz : i.zero with
    | none => simp [hi, hz] at h
    | some v => simp [hi, hz] at h; exact ⟨i, v, rfl, hz, h⟩

theorem sAlloc_sound {P : Program} {g : G} {ρ : Env} {H : List AB} {w : World} (hs : Sat g ρ H w) {q : Option Nat} {t : TypeId} (h : (sAlloc P H q t).pre) :
    ∃ ρ' x w', (Instr.alloc t true (.tuple #[])).run P w = .ok x w' ∧ Env.le ρ ρ' ∧ Sat g ρ' (sAlloc P H q t).heap w' ∧ R ρ' (sAlloc P H q t).val x := by
  unfold sAlloc at h ⊢
  cases hz : tzero P t with
  | none => rw [hz] at h; exact h.elim
  | some z =>
    obtain ⟨i, v, h1, h2, rfl⟩ := tzero_some hz
    rw [hz] at h
    obtain ⟨ρ', k1, k2, k3⟩ := sNew_sat hs q h (v.cells.toList.map SV.raw) v.cells t (RL.raws _)
    refine ⟨ρ', _, _, ?_, k1, k2, k3⟩
    simp [Instr.alloc, zeroValue, typeInfo, h1, h2, newVar, newRow]

def sBox (H : List AB) (q : Option Nat) (t : TypeId) (x : SV) : Res := ⟨holeAt H q ∧ (vcells x).all one = true, .ptr (idxAt H q) 0, pushAt H (.cells (vcells x) t) q⟩

theorem sBox_sound {P : Program} {g : G} {ρ : Env} {H : List AB} {w : World} (hs : Sat g ρ H w) {q : Option Nat} {t : TypeId} {s : SV} {v : Value} (hv : R ρ s v) (h : (sBox H q t s).pre) :
    ∃ ρ' x w', (Instr.box t v).run P w = .ok x w' ∧ Env.le ρ ρ' ∧ Sat g ρ' (sBox H q t s).heap w' ∧ R ρ' (sBox H q t s).val x := by
  obtain ⟨ρ', k1, k2, k3⟩ := sNew_sat hs q h.1 (vcells s) v.cells t (vcells_spec h.2 hv).1
  refine ⟨ρ', _, _, ?_, k1, k2, k3⟩
  simp [Instr.box, newVar, newRow]

/-! ### Aggregates -/
def whole : SV → Bool
  | .agg _ => true
  | s => one s

theorem whole_spec {ρ : Env} {s : SV} {v : Value} (h : whole s = true) (hv : R ρ s v) : RL ρ (vcells s) v.cells.toList := by
  cases s with
  | agg cs =>
    simp only [R] at hv
    obtain ⟨a, rfl, h2⟩ := hv
    exact h2
  | _ =>
    simp only [whole] at h
    obtain ⟨h1, h2, h3⟩ := one_spec h hv
    rw [h2, h3]
    simp only [RL]
    exact ⟨hv, trivial⟩

def sFill (place : Nat → Option (Nat × Nat)) : List (Nat × SV) → List SV → Prop × List SV
  | [], cs => (True, cs)
  | (i, v) :: r, cs => match place i with
    | some (off, sz) => ((whole v = true ∧ (vcells v).length = sz ∧ off + sz ≤ cs.length) ∧ (sFill place r (splice cs off (vcells v))).1, (sFill place r (splice cs off (vcells v))).2)
    | none => (False, [])

theorem foldl_put (v : List Value) : ∀ (off : Nat) (cs : Array Value), off + v.length ≤ cs.size →
    ((v.zipIdx).foldl (fun cs (x : Value × Nat) => cs.setIfInBounds (off + x.2) x.1) cs).toList = cs.toList.take off ++ v ++ cs.toList.drop (off + v.length) := by
  have key : ∀ (l : List Value) (q off : Nat) (cs : Array Value), off + q + l.length ≤ cs.size →
      ((l.zipIdx q).foldl (fun cs (x : Value × Nat) => cs.setIfInBounds (off + x.2) x.1) cs).toList = cs.toList.take (off + q) ++ l ++ cs.toList.drop (off + q + l.length) := by
    intro l
    induction l with
    | nil => intro q off cs _; simp
    | cons x l ih =>
      intro q off cs hl
      simp only [List.zipIdx_cons, List.foldl_cons]
      rw [ih (q + 1) off _ (by simp at hl ⊢; omega)]
      simp only [List.length_cons] at hl
      apply List.ext_getElem?
      intro j
      have e1 := splice_get (cs.setIfInBounds (off + q) x).toList l (off + (q + 1)) (by simp; omega) j
      have e2 := splice_get cs.toList (x :: l) (off + q) (by simp; omega) j
      rw [e1, e2]
      simp only [Array.toList_setIfInBounds, List.length_cons]
      by_cases h1 : j < off + q
      · rw [if_pos (by omega), if_pos h1, List.getElem?_set_ne (by omega)]
      · rw [if_neg h1]
        by_cases h2 : j = off + q
        · subst h2
          rw [if_pos (by omega), if_pos (by omega), List.getElem?_set_self (by simp; omega)]
          simp
        · rw [if_neg (by omega)]
          by_cases h3 : j < off + (q + 1) + l.length
          · rw [if_pos h3, if_pos (by omega)]
            rw [show j - (off + q) = (j - (off + (q + 1))) + 1 by omega]
            simp
          · rw [if_neg h3, if_neg (by omega), List.getElem?_set_ne (by omega)]
  intro off cs h
  have := key v 0 off cs (by simpa using h)
  simpa using this

theorem sFill_sound {ρ : Env} (place : Nat → Option (Nat × Nat)) : ∀ (ps : List (Nat × SV)) (qs : List (Nat × Value)) (cs : List SV) (a : Array Value),
    (sFill place ps cs).1 → RL ρ cs a.toList → ps.map (·.1) = qs.map (·.1) → RL ρ (ps.map (·.2)) (qs.map (·.2)) →
    ∃ a', Instr.fill place a qs = some a' ∧ RL ρ (sFill place ps cs).2 a'.toList
  | [], [], cs, a, _, hr, _, _ => ⟨a, rfl, hr⟩
  | [], _ :: _, _, _, _, _, h, _ => by simp at h
  | _ :: _, [], _, _, _, _, h, _ => by simp at h
  | (i, s) :: ps, (i', v) :: qs, cs, a, h, hr, hi, hp => by
    simp only [List.map_cons, List.cons.injEq] at hi
    obtain ⟨rfl, hi⟩ := hi
    simp only [List.map_cons, RL] at hp
    simp only [sFill] at h ⊢
    cases hpl : place i with
    | none => rw [hpl] at h; exact h.elim
    | some x =>
      obtain ⟨off, sz⟩ := x
      rw [hpl] at h
      simp only at h ⊢
      obtain ⟨⟨h1, rfl, h3⟩, h4⟩ := h
      have hw := whole_spec h1 hp.1
      have hl := hw.length
      have hl2 := hr.length
      simp only [Array.length_toList] at hl hl2
      have hput := foldl_put v.cells.toList off a (by simp; omega)
      have hput' : (v.cells.zipIdx.foldl (fun cs (x : Value × Nat) => cs.setIfInBounds (off + x.2) x.1) a).toList = a.toList.take off ++ v.cells.toList ++ a.toList.drop (off + v.cells.toList.length) := by
        rw [← hput]
        rw [← Array.foldl_toList]
        simp
      obtain ⟨a', g1, g2⟩ := sFill_sound place ps qs (splice cs off (vcells s)) (v.cells.zipIdx.foldl (fun cs (x : Value × Nat) => cs.setIfInBounds (off + x.2) x.1) a) h4 (by
        rw [hput']
        unfold splice
        rw [show (vcells s).length = v.cells.toList.length by simpa using hl]
        exact RL.append (RL.append (RL.take _ hr) hw) (RL.drop _ hr)) hi hp.2
      refine ⟨a', ?_, g2⟩
      simp only [Instr.fill, hpl]
      rw [if_neg (by simp; omega)]
      exact g1

/-- The fields' places of a struct type. -/
def tplaces (P : Program) (t : TypeId) : Option (List (Nat × Nat)) := match P.underlying t with
  | some (.struct fs) => if fs.toList.all (fun f => tknown P f.type) then some (fs.toList.map fun f => (f.offset, tsize P f.type)) else none
  | _ => none

def nth (l : List (Nat × Nat)) : Nat → Option (Nat × Nat) := match l with
  | [] => fun _ => none
  | x :: r => fun n => match n with
    | 0 => some x
    | n + 1 => nth r n

theorem nth_eq : ∀ (l : List (Nat × Nat)) (n : Nat), nth l n = l[n]?
  | [], n => by simp [nth]
  | x :: r, 0 => by simp [nth]
  | x :: r, n + 1 => by simp [nth, nth_eq r n]

def sBuild (P : Program) (H : List AB) (t : TypeId) (ps : List (Nat × SV)) : Res :=
  match tzero P t, tplaces P t with
  | some z, some pl => ⟨(sFill (nth pl) ps (z.map SV.raw)).1, .agg (sFill (nth pl) ps (z.map SV.raw)).2, H⟩
  | _, _ => no

theorem run_places {P : Program} (w : World) : ∀ (fs : List Field), (fs.all fun f => tknown P f.type) = true →
    (fs.mapM (m := Sem) fun f => do pure (f.offset, ← sizeOf f.type)).run P w = .ok (fs.map fun f => (f.offset, tsize P f.type)) w
  | [], _ => by simp
  | f :: fs, h => by
    simp only [List.all_cons, Bool.and_eq_true] at h
    simp only [List.mapM_cons, Sem.run_bind, run_sizeOf' h.1, Result.andThen_ok, Sem.run_pure, run_places w fs h.2, List.map_cons]

theorem sBuild_sound {P : Program} {ρ : Env} {H : List AB} {t : TypeId} {ps : List (Nat × SV)} {qs : Array (Nat × Value)} (hi : ps.map (·.1) = qs.toList.map (·.1)) (hp : RL ρ (ps.map (·.2)) (qs.toList.map (·.2))) (h : (sBuild P H t ps).pre) :
    (sBuild P H t ps).heap = H ∧ ∃ x, (∀ w, (Instr.build t qs).run P w = .ok x w) ∧ R ρ (sBuild P H t ps).val x := by
  unfold sBuild at h ⊢
  split at h
  · rename_i z pl hz hpl
    obtain ⟨i, v, h1, h2, rfl⟩ := tzero_some hz
    obtain ⟨a', g1, g2⟩ := sFill_sound (nth pl) ps qs.toList (v.cells.toList.map SV.raw) v.cells h (RL.raws _) hi hp
    unfold tplaces at hpl
    split at hpl
    · rename_i fs hu
      split at hpl
      · rename_i hall
        cases hpl
        refine ⟨rfl, .agg a', fun w => ?_, by simp only [R]; exact ⟨a', rfl, g2⟩⟩
        have hm : (fs.mapM (m := Sem) fun f => do pure (f.offset, ← sizeOf f.type)).run P w = .ok (fs.toList.map fun f => (f.offset, tsize P f.type)).toArray w := by
          rw [← Array.toArray_toList (xs := fs), List.mapM_toArray]
          simp only [Sem.run_map, run_places w fs.toList hall, Result.andThen_ok]
        have hpe : (fun x => ((fs.toList.map fun f => (f.offset, tsize P f.type)).toArray)[x]?) = nth (fs.toList.map fun f => (f.offset, tsize P f.type)) := by
          funext x; rw [nth_eq]; simp
        simp only [Instr.build, zeroValue, typeInfo, Sem.run_bind, run_program, h1, h2, Result.andThen_ok, Sem.run_pure, run_underlying hu, hm, hpe, g1]
      · cases hpl
    · cases hpl
  · exact h.elim

/-! ### Slices that are written out -/
def lg (l : List (List SV)) : Nat → List SV := match l with
  | [] => fun _ => []
  | x :: r => fun n => match n with
    | 0 => x
    | n + 1 => lg r n

end Go.Proofs.Ytmnpnnegnlhemaa.Eng
namespace Go.Proofs.Ytmnpnnegnlhemaa.Eng
open Go

def zrep : Nat → List Value → List Value
  | 0, _ => []
  | n + 1, z => z ++ zrep n z

theorem zrep_length : ∀ (n : Nat) (z : List Value), (zrep n z).length = n * z.length
  | 0, z => by simp [zrep]
  | n + 1, z => by simp [zrep, zrep_length n z, Nat.succ_mul, Nat.add_comm]

theorem zrep_get : ∀ (n : Nat) (z : List Value) (k j : Nat), k < n → j < z.length → (zrep n z)[k * z.length + j]? = z[j]?
  | 0, _, _, _, h, _ => by omega
  | n + 1, z, 0, j, _, hj => by
    simp only [zrep, Nat.zero_mul, Nat.zero_add]
    rw [List.getElem?_append_left hj]
  | n + 1, z, k + 1, j, hk, hj => by
    simp only [zrep]
    rw [List.getElem?_append_right (by rw [Nat.succ_mul]; omega)]
    rw [show (k + 1) * z.length + j - z.length = k * z.length + j by rw [Nat.succ_mul]; omega]
    exact zrep_get n z k j (by omega) hj

theorem zrep_all (n : Nat) (z : List Value) (i : Nat) (h : i < n * z.length) : (zrep n z)[i]? = z[i % z.length]? := by
  have hz : 0 < z.length := by
    rcases Nat.eq_zero_or_pos z.length with h0 | h0
    · rw [h0] at h; omega
    · exact h0
  have e := Nat.div_add_mod i z.length
  have hk : i / z.length < n := by
    rw [Nat.div_lt_iff_lt_mul hz]; exact h
  have := zrep_get n z (i / z.length) (i % z.length) hk (Nat.mod_lt _ hz)
  rwa [Nat.mul_comm, e] at this

theorem madeCells_eq (z : Array Value) (n : Nat) : (madeCells z (n * z.size)).toList = zrep n z.toList := by
  apply List.ext_getElem?
  intro i
  by_cases h : i < n * z.size
  · rw [zrep_all _ _ _ (by simpa using h)]
    have hz : 0 < z.size := by
      rcases Nat.eq_zero_or_pos z.size with h0 | h0
      · rw [h0] at h; omega
      · exact h0
    have hm : i % z.size < z.size := Nat.mod_lt _ hz
    simp [madeCells, h, hm]
  · rw [List.getElem?_eq_none (by simp [size_madeCells]; omega), List.getElem?_eq_none (by rw [zrep_length]; simp; omega)]

/-- A block for a new list. -/
theorem sList_satAt {g : G} {ρ : Env} {H : List AB} {w : World} (hs : Sat g ρ H w) (q : Option Nat) (hq : holeAt H q) (n c sz : Nat) (f : Nat → List SV) (vs : Array Value) (t : TypeId) (hn : n ≤ c) (hz : vs.size = c * sz)
    (hr : ∀ k j s, k < n → j < sz → (f k)[j]? = some s → ∃ x, vs[k * sz + j]? = some x ∧ R ρ s x) :
    ∃ ρ', Env.le ρ ρ' ∧ Sat g ρ' (pushAt H (.lst n sz f t) q) (w.alloc (.cells vs t)) ∧ R ρ' (.lst (idxAt H q) sz 0 n) (.slice (some ⟨w.heap.size, 0, none⟩) n c) := by
  have hat : (ρ.ext (idxAt H q) (w.heap.size, (c, 0))) (idxAt H q) = some (w.heap.size, (c, 0)) := by simp [Env.ext]
  obtain ⟨k1, k2⟩ := hs.newAt q hq (c, 0) (.lst n sz f t) (.cells vs t) (fun hle => by
    refine .inr ⟨_, _, vs, hat, heap_new w _, hn, by simpa using hz, fun k j s hk hj hf => ?_⟩
    obtain ⟨x, hx, hx'⟩ := hr k j s hk hj hf
    exact ⟨x, by simpa using hx, R.mono hle _ _ hx'⟩)
  refine ⟨_, k1, k2, ?_⟩
  simp only [R]
  exact .inr ⟨_, _, ⟨w.heap.size, 0, none⟩, hat, by simpa using hn, by simp, fun _ => by simp⟩

theorem sList_sat {g : G} {ρ : Env} {H : List AB} {w : World} (hs : Sat g ρ H w) (n c sz : Nat) (f : Nat → List SV) (vs : Array Value) (t : TypeId) (hn : n ≤ c) (hz : vs.size = c * sz)
    (hr : ∀ k j s, k < n → j < sz → (f k)[j]? = some s → ∃ x, vs[k * sz + j]? = some x ∧ R ρ s x) :
    ∃ ρ', Env.le ρ ρ' ∧ Sat g ρ' (H ++ [.lst n sz f t]) (w.alloc (.cells vs t)) ∧ R ρ' (.lst H.length sz 0 n) (.slice (some ⟨w.heap.size, 0, none⟩) n c) :=
  sList_satAt hs none trivial n c sz f vs t hn hz hr

def tbytes? (P : Program) (t : TypeId) : Nat := ((P.info? t).map (·.bytes)).getD 0

def sMake (P : Program) (H : List AB) (q : Option Nat) (t : TypeId) (l c : SV) : Res :=
  match telem P t, l, c with
  | some e, .raw (.int _ n), .raw (.int _ m) => match tzero P e with
    | some z => ⟨holeAt H q ∧ n = m ∧ 0 ≤ n ∧ (tbytes? P e : Int) * n ≤ 140737488355328 ∧ n ≤ 140737488355328 ∧ z.length = tsize P e, .lst (idxAt H q) (tsize P e) 0 n.toNat, pushAt H (.lst n.toNat (tsize P e) (fun _ => z.map SV.raw) e) q⟩
    | none => no
  | _, _, _ => no

theorem sMake_sound {P : Program} {g : G} {ρ : Env} {H : List AB} {w : World} (hs : Sat g ρ H w) {q : Option Nat} {t : TypeId} {l c : SV} {vl vc : Value} (hl : R ρ l vl) (hc : R ρ c vc) (h : (sMake P H q t l c).pre) :
    ∃ ρ' x w', (Instr.makeSlice t vl vc).run P w = .ok x w' ∧ Env.le ρ ρ' ∧ Sat g ρ' (sMake P H q t l c).heap w' ∧ R ρ' (sMake P H q t l c).val x := by
  unfold sMake at h ⊢
  split at h
  · rename_i e _ n _ m he
    simp only [R] at hl hc
    subst hl; subst hc
    split at h
    · rename_i z hz
      obtain ⟨hq, rfl, h0, hb, h63, hzl⟩ := h
      obtain ⟨i, v, h1, h2, rfl⟩ := tzero_some hz
      have hsz : tsize P e = i.size := by simp [tsize, Program.cellsOf, h1]
      have hby : tbytes? P e = i.bytes := by simp [tbytes?, h1]
      rw [hby] at hb
      rw [hsz] at hzl ⊢
      have hzs : v.cells.size = i.size := by simpa using hzl
      obtain ⟨ρ', k1, k2, k3⟩ := sList_satAt hs q hq n.toNat n.toNat i.size (fun _ => v.cells.toList.map SV.raw) (madeCells v.cells (n.toNat * i.size)) e (Nat.le_refl _) (size_madeCells _ _) (by
        intro k j s hk hj hf
        refine ⟨v.cells[j]'(by omega), ?_, ?_⟩
        · rw [← Array.getElem?_toList, ← hzs, madeCells_eq]
          have := zrep_get n.toNat v.cells.toList k j hk (by simp; omega)
          simp only [Array.length_toList] at this
          rw [this]
          simp
        · have hj' : j < v.cells.size := by omega
          simp [hj'] at hf
          subst hf
          simp only [R])
      exact ⟨ρ', _, _, run_make w t e i v (telem_some he) h1 h2 _ _ n n h0 (Int.le_refl _) (by omega) (by omega), k1, k2, k3⟩
    · exact h.elim
  · exact h.elim

/-! ### Slices that are written out -/
def sLit (P : Program) (H : List AB) (q : Option Nat) (t : TypeId) (len : Nat) (ps : List (Nat × SV)) : Res :=
  match telem P t with
  | some e => match tzero P e with
    | some z => ⟨holeAt H q ∧ (sFill (fun i => some (i * tsize P e, tsize P e)) ps ((zrep len z).map SV.raw)).1 ∧ tknown P e = true ∧ z.length = tsize P e ∧ len * tsize P e ≤ 16777216,
        .lst (idxAt H q) (tsize P e) 0 len,
        pushAt H (.lst len (tsize P e) (fun k => ((sFill (fun i => some (i * tsize P e, tsize P e)) ps ((zrep len z).map SV.raw)).2.drop (k * tsize P e)).take (tsize P e)) e) q⟩
    | none => no
  | none => no

theorem sFill_length (place : Nat → Option (Nat × Nat)) : ∀ (ps : List (Nat × SV)) (cs : List SV), (sFill place ps cs).1 → (sFill place ps cs).2.length = cs.length
  | [], cs, _ => rfl
  | (i, s) :: ps, cs, h => by
    simp only [sFill] at h ⊢
    split at h
    · rename_i off sz hp
      obtain ⟨⟨h1, h2, h3⟩, h4⟩ := h
      rw [sFill_length place ps _ h4]
      simp [splice]; omega
    · exact h.elim

theorem sLit_sound {P : Program} {g : G} {ρ : Env} {H : List AB} {w : World} (hs : Sat g ρ H w) {q : Option Nat} {t : TypeId} {len : Nat} {ps : List (Nat × SV)} {qs : Array (Nat × Value)}
    (hi : ps.map (·.1) = qs.toList.map (·.1)) (hp : RL ρ (ps.map (·.2)) (qs.toList.map (·.2))) (h : (sLit P H q t len ps).pre) :
    ∃ ρ' x w', (Instr.buildSlice t len qs).run P w = .ok x w' ∧ Env.le ρ ρ' ∧ Sat g ρ' (sLit P H q t len ps).heap w' ∧ R ρ' (sLit P H q t len ps).val x := by
  unfold sLit at h ⊢
  split at h
  · rename_i e he
    split at h
    · rename_i z hz
      obtain ⟨hq, h1, hk, hzl, hb⟩ := h
      obtain ⟨i, v, g1, g2, rfl⟩ := tzero_some hz
      have hsz : tsize P e = i.size := by simp [tsize, Program.cellsOf, g1]
      have hzs : v.cells.size = tsize P e := by simpa using hzl
      have hm : (madeCells v.cells (len * tsize P e)).toList = zrep len v.cells.toList := by rw [← hzs]; exact madeCells_eq _ _
      obtain ⟨a', f1, f2⟩ := sFill_sound (fun i => some (i * tsize P e, tsize P e)) ps qs.toList ((zrep len v.cells.toList).map SV.raw) (madeCells v.cells (len * tsize P e)) h1 (by rw [hm]; exact RL.raws _) hi hp
      have hla : a'.size = len * tsize P e := by
        have := f2.length
        rw [sFill_length _ _ _ h1] at this
        simp only [List.length_map, zrep_length, Array.length_toList, hzs] at this
        exact this.symm
      obtain ⟨ρ', k1, k2, k3⟩ := sList_satAt hs q hq len len (tsize P e) (fun k => ((sFill (fun i => some (i * tsize P e, tsize P e)) ps ((zrep len v.cells.toList).map SV.raw)).2.drop (k * tsize P e)).take (tsize P e)) a' e (Nat.le_refl _) hla (by
        intro k j s hk' hj hf
        rw [List.getElem?_take, if_pos hj, List.getElem?_drop] at hf
        obtain ⟨x, hx, hr⟩ := f2.get _ _ hf
        exact ⟨x, by simpa using hx, hr⟩)
      refine ⟨ρ', _, _, ?_, k1, k2, k3⟩
      have hb' : ¬ (16777216 < len * i.size) := by rw [← hsz]; omega
      have f1' : Instr.fill (fun j => some (j * i.size, i.size)) (madeCells v.cells (len * i.size)) qs.toList = some a' := by rw [← hsz]; exact f1
      by_cases h00 : len * i.size = 0
      · rw [h00] at f1'
        have hma : madeCells v.cells 0 = #[] := by simp [madeCells, Array.range_zero']
        rw [hma] at f1'
        simp [Instr.buildSlice, run_underlying (telem_some he), sizeOf, typeInfo, g1, h00, Array.range_zero', f1', newRow]
      · have hma : (Array.map (fun x => v.cells[x % v.cells.size]!) (Array.range (len * i.size))) = madeCells v.cells (len * i.size) := rfl
        simp [Instr.buildSlice, run_underlying (telem_some he), sizeOf, typeInfo, g1, zeroValue, g2, h00, hb', hma, f1', newRow]
    · exact h.elim
  · exact h.elim

end Go.Proofs.Ytmnpnnegnlhemaa.Eng
namespace Go.Proofs.Ytmnpnnegnlhemaa.Eng
open Go

theorem List.get_cases_push {H : List AB} {x ab' : AB} {i : Nat} (hi : (H ++ [x])[i]? = some ab') : (i = H.length ∧ ab' = x) ∨ (i < H.length ∧ H[i]? = some ab') := by
  rcases Nat.lt_trichotomy i H.length with k | k | k
  · rw [List.getElem?_append_left k] at hi
    exact .inr ⟨k, hi⟩
  · subst k
    simp at hi
    exact .inl ⟨rfl, hi.symm⟩
  · rw [List.getElem?_eq_none (by simp; omega)] at hi
    cases hi

/-- A block goes over to a new index. -/
theorem Sat.move {g : G} {ρ : Env} {H : List AB} {w : World} (h : Sat g ρ H w) {i b : Nat} {c c' : Nat × Nat} {ab ab' : AB}
    (hi : H[i]? = some ab) (hv : ab.live = true) (hr : ρ i = some (b, c)) (hb : BSat (ρ.ext H.length (b, c')) H.length w ab') :
    Sat g (ρ.ext H.length (b, c')) (H.set i .dead ++ [ab']) w := by
  have hn := h.out H.length (Nat.le_refl _)
  have hle : Env.le ρ (ρ.ext H.length (b, c')) := Env.le_ext hn
  have hat : (ρ.ext H.length (b, c')) H.length = some (b, c') := by simp [Env.ext]
  have hoth : ∀ j, j ≠ H.length → (ρ.ext H.length (b, c')) j = ρ j := fun j hj => by simp [Env.ext, hj]
  have cases' : ∀ (j : Nat) (aj : AB), (H.set i .dead ++ [ab'])[j]? = some aj → aj.live = true →
      (j = H.length ∧ aj = ab') ∨ (j ≠ i ∧ j ≠ H.length ∧ H[j]? = some aj) := by
    intro j aj hj hvj
    rcases List.get_cases_push hj with ⟨e, rfl⟩ | ⟨e, hj'⟩
    · exact .inl ⟨by simpa using e, rfl⟩
    · by_cases k : j = i
      · subst k
        rw [List.getElem?_set] at hj'
        simp at hj'
        rw [← hj'.2] at hvj
        cases hvj
      · rw [List.getElem?_set_ne (Ne.symm k)] at hj'
        exact .inr ⟨k, by simp at e; omega, hj'⟩
  refine ⟨h.os, h.tape, h.output, h.size, h.keep, ?_, ?_, ?_, ?_, ?_, ?_⟩
  · intro j aj hj
    rcases List.get_cases_push hj with ⟨e, rfl⟩ | ⟨e, hj'⟩
    · have : j = H.length := by simpa using e
      subst this; exact hb
    · have hne : j ≠ H.length := by simp at e; omega
      by_cases k : j = i
      · subst k
        rw [List.getElem?_set] at hj'
        simp at hj'
        rw [← hj'.2]; trivial
      · rw [List.getElem?_set_ne (Ne.symm k)] at hj'
        exact (h.blk j aj hj').mono hle (hoth j hne) (fun _ _ _ _ => rfl)
  · intro j aj b' d hj hvj hrj
    rcases cases' j aj hj hvj with ⟨rfl, rfl⟩ | ⟨h1, h2, h3⟩
    · rw [hat] at hrj; cases hrj; exact h.own i ab _ _ hi hv hr
    · rw [hoth j h2] at hrj; exact h.own j aj b' d h3 hvj hrj
  · intro j aj b' d hj hvj hrj
    rcases cases' j aj hj hvj with ⟨rfl, rfl⟩ | ⟨h1, h2, h3⟩
    · rw [hat] at hrj; cases hrj; exact h.lt i ab _ _ hi hv hr
    · rw [hoth j h2] at hrj; exact h.lt j aj b' d h3 hvj hrj
  · intro j k aj ak b' d e hj hk hvj hvk hrj hrk
    rcases cases' j aj hj hvj with ⟨rfl, rfl⟩ | ⟨h1, h2, h3⟩
    · rcases cases' k ak hk hvk with ⟨rfl, rfl⟩ | ⟨k1, k2, k3⟩
      · rfl
      · rw [hat] at hrj; rw [hoth k k2] at hrk
        cases hrj
        exact absurd (h.inj k i ak ab b e c k3 hi hvk hv hrk hr) k1
    · rcases cases' k ak hk hvk with ⟨rfl, rfl⟩ | ⟨k1, k2, k3⟩
      · rw [hat] at hrk; rw [hoth j h2] at hrj
        cases hrk
        exact absurd (h.inj j i aj ab b d c h3 hi hvj hv hrj hr) h1
      · rw [hoth j h2] at hrj; rw [hoth k k2] at hrk
        exact h.inj j k aj ak b' d e h3 k3 hvj hvk hrj hrk
  · intro j hj
    simp at hj
    rw [hoth j (by omega)]
    exact h.out j (by omega)
  · intro a v e
    refine ⟨(h.ro a v e).1, (h.ro a v e).2.1, fun j aj b' d hj hvj hrj => ?_⟩
    rcases cases' j aj hj hvj with ⟨rfl, rfl⟩ | ⟨h1, h2, h3⟩
    · rw [hat] at hrj; cases hrj; exact (h.ro a v e).2.2 i ab _ _ hi hv hr
    · rw [hoth j h2] at hrj; exact (h.ro a v e).2.2 j aj b' d h3 hvj hrj

/-- An index for a list that is nil. -/
theorem Sat.pushNil {g : G} {ρ : Env} {H : List AB} {w : World} (h : Sat g ρ H w) (sz : Nat) (f : Nat → List SV) (t : TypeId) : Sat g ρ (H ++ [.lst 0 sz f t]) w := by
  have hn := h.out H.length (Nat.le_refl _)
  have cases' : ∀ (j : Nat) (aj : AB) b c, (H ++ [AB.lst 0 sz f t])[j]? = some aj → ρ j = some (b, c) → H[j]? = some aj := by
    intro j aj b c hj hr
    rcases List.get_cases_push hj with ⟨rfl, rfl⟩ | ⟨e, hj'⟩
    · rw [hn] at hr; cases hr
    · exact hj'
  refine ⟨h.os, h.tape, h.output, h.size, h.keep, ?_, ?_, ?_, ?_, ?_, ?_⟩
  · intro j aj hj
    rcases List.get_cases_push hj with ⟨rfl, rfl⟩ | ⟨e, hj'⟩
    · exact .inl ⟨rfl, hn⟩
    · exact h.blk j aj hj'
  · intro j aj b c hj hvj hr; exact h.own j aj b c (cases' _ _ _ _ hj hr) hvj hr
  · intro j aj b c hj hvj hr; exact h.lt j aj b c (cases' _ _ _ _ hj hr) hvj hr
  · intro j k aj ak b c d hj hk hvj hvk hr hr'; exact h.inj j k aj ak b c d (cases' _ _ _ _ hj hr) (cases' _ _ _ _ hk hr') hvj hvk hr hr'
  · intro j hj; exact h.out j (by simp at hj; omega)
  · intro a v e
    exact ⟨(h.ro a v e).1, (h.ro a v e).2.1, fun j aj b c hj hvj hr => (h.ro a v e).2.2 j aj b c (cases' _ _ _ _ hj hr) hvj hr⟩

theorem Sat.kill {g : G} {ρ : Env} {H : List AB} {w : World} (h : Sat g ρ H w) (i : Nat) : Sat g ρ (H.set i .dead) w := by
  refine h.weaken (by simp) fun j ab ab' hj hj' => ?_
  by_cases k : j = i
  · subst k
    rw [List.getElem?_set] at hj'
    simp at hj'
    exact .inl hj'.2.symm
  · rw [List.getElem?_set_ne (Ne.symm k), hj] at hj'
    cases hj'
    exact .inr ⟨rfl, id⟩

/-! ### What is appended -/
def allK : Nat → (Nat → Prop) → Prop
  | 0, _ => True
  | n + 1, p => allK n p ∧ p n

theorem allK_spec : ∀ (n : Nat) (p : Nat → Prop), allK n p ↔ ∀ k, k < n → p k
  | 0, p => by simp [allK]
  | n + 1, p => by
    simp only [allK, allK_spec n p]
    constructor
    · rintro ⟨h1, h2⟩ k hk
      rcases Nat.lt_succ_iff_lt_or_eq.1 hk with q | rfl
      · exact h1 k q
      · exact h2
    · exact fun h => ⟨fun k hk => h k (by omega), h n (by omega)⟩

def roRow (E : Addr → Option Value) (b o sz : Nat) : List SV := (roCells E b o sz).2

def src (E : Addr → Option Value) (H : List AB) (sz : Nat) : SV → Prop × Nat × (Nat → List SV)
  | .lst j sz' off m => match hget H j with
    | .lst n sz'' f _ => (sz' = sz ∧ sz'' = sz ∧ off + m ≤ n ∧ allK m (fun k => (f (off + k)).length = sz ∧ (f (off + k)).all one = true), m, fun k => f (off + k))
    | _ => (False, 0, fun _ => [])
  | .raw (.slice none 0 0) => (True, 0, fun _ => [])
  | .raw (.slice (some ⟨b, o, none⟩) m _) => (allK m (fun k => (roCells E b (o + k * sz) sz).1 ∧ (roRow E b (o + k * sz) sz).all one = true), m, fun k => roRow E b (o + k * sz) sz)
  | _ => (False, 0, fun _ => [])

/-- The cells of a list of rows, laid one behind another. -/
theorem rows_flat (w : World) {ρ : Env} (b o sz : Nat) : ∀ (m : Nat) (f : Nat → List SV),
    (∀ k, k < m → ∃ vs : List Value, vs.length = sz ∧ (∀ j x, vs[j]? = some x → w.cell? ⟨b, o + k * sz + j, none⟩ = some x) ∧ RL ρ (f k) vs ∧ ∀ u ∈ vs, u.oneCell' = true) →
    ∃ news : List Value, news.length = m * sz ∧ (∀ j x, news[j]? = some x → w.cell? ⟨b, o + j, none⟩ = some x) ∧ (∀ u ∈ news, u.oneCell' = true) ∧
      ∀ k j s, k < m → j < sz → (f k)[j]? = some s → ∃ x, news[k * sz + j]? = some x ∧ R ρ s x
  | 0, f, _ => ⟨[], by simp, by simp, by simp, fun k j s hk => by omega⟩
  | m + 1, f, h => by
    obtain ⟨news, h1, h2, h3, h4⟩ := rows_flat w b o sz m f (fun k hk => h k (by omega))
    obtain ⟨vs, g1, g2, g3, g4⟩ := h m (by omega)
    refine ⟨news ++ vs, by simp [h1, g1, Nat.succ_mul], ?_, ?_, ?_⟩
    · intro j x hx
      by_cases q : j < news.length
      · rw [List.getElem?_append_left q] at hx
        exact h2 j x hx
      · rw [List.getElem?_append_right (by omega)] at hx
        have := g2 _ _ hx
        rwa [show o + m * sz + (j - news.length) = o + j by omega] at this
    · intro u hu
      rcases List.mem_append.1 hu with q | q
      · exact h3 u q
      · exact g4 u q
    · intro k j s hk hj hf
      rcases Nat.lt_succ_iff_lt_or_eq.1 hk with q | rfl
      · obtain ⟨x, hx, hr⟩ := h4 k j s q hj hf
        have hlt : k * sz + j < news.length := by
          rcases Nat.lt_or_ge (k * sz + j) news.length with z | z
          · exact z
          · rw [List.getElem?_eq_none z] at hx; cases hx
        exact ⟨x, by rw [List.getElem?_append_left hlt]; exact hx, hr⟩
      · obtain ⟨x, hx, hr⟩ := g3.get j s hf
        refine ⟨x, ?_, hr⟩
        rw [List.getElem?_append_right (by omega)]
        rwa [show k * sz + j - news.length = j by omega]

theorem all_one {ρ : Env} : ∀ {l : List SV} {r : List Value}, RL ρ l r → l.all one = true → ∀ u ∈ r, u.oneCell' = true
  | [], [], _, _ => by simp
  | [], _ :: _, h, _ => by simp only [RL] at h
  | _ :: _, [], h, _ => by simp only [RL] at h
  | s :: l, v :: r, h, ha => by
    simp only [RL] at h
    simp only [List.all_cons, Bool.and_eq_true] at ha
    intro u hu
    rcases List.mem_cons.1 hu with rfl | hu
    · exact (one_spec ha.1 h.1).1
    · exact all_one h.2 ha.2 u hu

theorem src_spec {g : G} {ρ : Env} {H : List AB} {w : World} (hs : Sat g ρ H w) {sz : Nat} {y : SV} {v : Value} (hv : R ρ y v) (h : (src g.E H sz y).1) :
    ∃ (ao : Option Addr) (c : Nat) (news : List Value), v = .slice ao (src g.E H sz y).2.1 c ∧ news.length = (src g.E H sz y).2.1 * sz ∧
      (∀ ad, ao = some ad → ∀ j x, news[j]? = some x → w.cell? (ad.add j) = some x) ∧ (ao = none → (src g.E H sz y).2.1 = 0) ∧ (∀ u ∈ news, u.oneCell' = true) ∧
      ∀ k j s, k < (src g.E H sz y).2.1 → j < sz → ((src g.E H sz y).2.2 k)[j]? = some s → ∃ x, news[k * sz + j]? = some x ∧ R ρ s x := by
  unfold src at h ⊢
  split at h
  · rename_i j sz' off m
    split at h
    · rename_i n sz'' f t hg
      obtain ⟨rfl, rfl, h3, h4⟩ := h
      rw [allK_spec] at h4
      simp only [R] at hv
      rcases hv with ⟨rfl, rfl⟩ | ⟨b, c, a, e1, e2, rfl, e4⟩
      · exact ⟨none, 0, [], rfl, by simp, by simp, fun _ => rfl, by simp, fun k j s hk => by simp at hk⟩
      · rcases Nat.eq_zero_or_pos m with rfl | hm
        · exact ⟨some a, c.1 - off, [], rfl, by simp, by simp, by simp, by simp, fun k j s hk => by simp at hk⟩
        have ha := e4 (by omega)
        subst ha
        have hb := hs.blk j _ (hget_some (H := H) (i := j) (by rw [hg]; rfl))
        rw [hg] at hb
        rcases hb with ⟨e0, _⟩ | ⟨b', c', a, x1, x2, x3, x4, x5⟩
        · omega
        rw [e1] at x1; cases x1
        obtain ⟨news, g1, g2, g3, g4⟩ := rows_flat w b (c.2 + off * sz'') sz'' m (fun k => f (off + k)) (ρ := ρ) (by
          intro k hk
          obtain ⟨hl, ho⟩ := h4 k hk
          have key : ∀ (l : List SV) (q : Nat), (∀ x s, l[x]? = some s → ∃ y, a[c.2 + (off + k) * sz'' + q + x]? = some y ∧ R ρ s y) →
              ∃ vs : List Value, vs.length = l.length ∧ (∀ x y, vs[x]? = some y → a[c.2 + (off + k) * sz'' + q + x]? = some y) ∧ RL ρ l vs := by
            intro l
            induction l with
            | nil => intro q _; exact ⟨[], rfl, by simp, by simp [RL]⟩
            | cons s l ih =>
              intro q hq
              obtain ⟨vs, i1, i2, i3⟩ := ih (q + 1) (fun x s hx => by
                have := hq (x + 1) s (by simpa using hx)
                rwa [show c.2 + (off + k) * sz'' + q + (x + 1) = c.2 + (off + k) * sz'' + (q + 1) + x by omega] at this)
              obtain ⟨y, hy, hr⟩ := hq 0 s (by simp)
              refine ⟨y :: vs, by simp [i1], ?_, by simp only [RL]; exact ⟨hr, i3⟩⟩
              intro x z hz
              cases x with
              | zero => simp at hz; subst hz; exact hy
              | succ x =>
                have := i2 x z (by simpa using hz)
                rwa [show c.2 + (off + k) * sz'' + (q + 1) + x = c.2 + (off + k) * sz'' + q + (x + 1) by omega] at this
          obtain ⟨vs, i1, i2, i3⟩ := key (f (off + k)) 0 (by
            intro x s hx
            have hx' : x < sz'' := by
              rcases Nat.lt_or_ge x (f (off + k)).length with z | z
              · omega
              · rw [List.getElem?_eq_none z] at hx; cases hx
            exact x5 (off + k) x s (by omega) hx' hx)
          refine ⟨vs, by omega, ?_, i3, all_one i3 ho⟩
          intro j x hx
          rw [cell_of w b _ a t _ x2]
          have := i2 j x hx
          rwa [show c.2 + (off + k) * sz'' + 0 + j = c.2 + off * sz'' + k * sz'' + j by rw [Nat.add_mul]; omega] at this)
        refine ⟨some ⟨b, c.2 + off * sz'', none⟩, c.1 - off, news, rfl, g1, ?_, by simp, g3, g4⟩
        rintro ad rfl' j x hx
        cases rfl'
        rw [addr_add]
        exact g2 j x hx
    · exact h.elim
  · simp only [R] at hv
    subst hv
    exact ⟨none, 0, [], rfl, by simp, by simp, fun _ => rfl, by simp, fun k j s hk => by simp at hk⟩
  · rename_i b o m cap
    simp only [R] at hv
    subst hv
    rw [allK_spec] at h
    obtain ⟨news, g1, g2, g3, g4⟩ := rows_flat w b o sz m (fun k => roRow g.E b (o + k * sz) sz) (ρ := ρ) (by
      intro k hk
      obtain ⟨h1, h2⟩ := h k hk
      obtain ⟨vs, i1, i2, i3⟩ := roCells_spec hs b sz (o + k * sz) h1
      exact ⟨vs, i1, i2, i3, all_one i3 h2⟩)
    refine ⟨some ⟨b, o, none⟩, cap, news, rfl, g1, ?_, by simp, g3, g4⟩
    rintro ad rfl' j x hx
    cases rfl'
    rw [addr_add]
    exact g2 j x hx
  · exact h.elim

end Go.Proofs.Ytmnpnnegnlhemaa.Eng
namespace Go.Proofs.Ytmnpnnegnlhemaa.Eng
open Go

/-- The list that is appended to: its length and its elements. -/
def tgt (H : List AB) (sz : Nat) (e : TypeId) : SV → Prop × Nat × (Nat → List SV) × Option Nat
  | .raw (.slice none 0 0) => (True, 0, fun _ => [], none)
  | .lst i sz' off len => match hget H i with
    | .lst n sz'' f ty => (sz' = sz ∧ sz'' = sz ∧ off + len = n ∧ ty = e, len, fun k => f (off + k), some i)
    | _ => (False, 0, fun _ => [], none)
  | _ => (False, 0, fun _ => [], none)

def app (m : Nat) (f h : Nat → List SV) : Nat → List SV := fun k => if k < m then f k else h (k - m)

def sApp (P : Program) (E : Addr → Option Value) (H : List AB) (t : TypeId) (x y : SV) : Res :=
  match telem P t with
  | some e => match tzero P e with
    | some z =>
      let sz := tsize P e
      ⟨((tgt H sz e x).1 ∧ (src E H sz y).1) ∧ (z.length = sz ∧ 0 < sz) ∧ ((tgt H sz e x).2.1 + (src E H sz y).2.1) * tbytes? P e ≤ 140737488355328 ∧ (tgt H sz e x).2.1 + (src E H sz y).2.1 ≤ 140737488355328,
        .lst H.length sz 0 ((tgt H sz e x).2.1 + (src E H sz y).2.1),
        (match (tgt H sz e x).2.2.2 with | some i => hset H i .dead | none => H) ++ [.lst ((tgt H sz e x).2.1 + (src E H sz y).2.1) sz (app (tgt H sz e x).2.1 (tgt H sz e x).2.2.1 (src E H sz y).2.2) e]⟩
    | none => no
  | none => no

theorem run_app_room {P : Program} (w : World) (t ty e : TypeId) (i : TypeInfo) (ht : P.underlying t = some (.slice e)) (hi : P.info? e = some i)
    (b o sLen sCap : Nat) (cur : Array Value) (u : TypeId) (hg : w.heap[b]? = some (.cells cur u (0, 0)))
    (a : Addr) (m c : Nat) (news : List Value) (hl : news.length = m * i.size) (hnews : ∀ j u, news[j]? = some u → w.cell? (a.add j) = some u) (h1 : ∀ u ∈ news, u.oneCell' = true)
    (hroom : sLen + m ≤ sCap) (hfit : o + sLen * i.size + news.length ≤ cur.size) :
    (Builtin.append_ #[t, t] ty #[.slice (some ⟨b, o, none⟩) sLen sCap, .slice (some a) m c]).run P w =
      .ok (.slice (some ⟨b, o, none⟩) (sLen + m) sCap) (w.setRow b (cur.toList.take (o + sLen * i.size) ++ news ++ cur.toList.drop (o + sLen * i.size + news.length)).toArray) := by
  have hf := run_firstCells_some (P := P) w i.size m a m c news hl hnews
  have hst := run_storeCells_at P b (o + sLen * i.size) u news 0 cur w hg (by simpa using hfit) h1
  simp only [Nat.add_zero] at hst
  simp [Builtin.append_, run_underlying ht, sizeOf, typeInfo, hi, Builtin.lenOf, hroom, hf, addr_add, hst]

theorem run_app_none {P : Program} (w : World) (t ty e : TypeId) (i : TypeInfo) (ht : P.underlying t = some (.slice e)) (hi : P.info? e = some i) (ao bo : Option Addr) (sLen sCap c : Nat) (hlc : sLen ≤ sCap) :
    (Builtin.append_ #[t, t] ty #[.slice ao sLen sCap, .slice bo 0 c]).run P w = .ok (.slice ao sLen sCap) w := by
  cases ao <;> cases bo <;> simp [Builtin.append_, run_underlying ht, sizeOf, typeInfo, hi, Builtin.lenOf, hlc, Builtin.firstCells, storeCells, loadCells, loadCellsFrom]

theorem grown_ge (w : World) (need old : Nat) (e : TypeId) : need ≤ grownCap w need old e := by
  exact Nat.le_add_right _ _

theorem sApp_sound {P : Program} {g : G} {ρ : Env} {H : List AB} {w : World} (hs : Sat g ρ H w) {t ty : TypeId} {x y : SV} {vx vy : Value} (hx : R ρ x vx) (hy : R ρ y vy) (h : (sApp P g.E H t x y).pre) :
    ∃ ρ' v w', (Builtin.append_ #[t, t] ty #[vx, vy]).run P w = .ok v w' ∧ Env.le ρ ρ' ∧ Sat g ρ' (sApp P g.E H t x y).heap w' ∧ R ρ' (sApp P g.E H t x y).val v := by
  unfold sApp at h ⊢
  split at h
  · rename_i e he
    split at h
    · rename_i z hz
      obtain ⟨i, zv, g1, g2, rfl⟩ := tzero_some hz
      have hsz : tsize P e = i.size := by simp [tsize, Program.cellsOf, g1]
      have hby : tbytes? P e = i.bytes := by simp [tbytes?, g1]
      obtain ⟨⟨htg, hsr⟩, ⟨hzl, hpos⟩, hb, hmax⟩ := h
      obtain ⟨ao, c, news, rfl, n1, n2, n3, n4, n5⟩ := src_spec hs hy hsr
      dsimp only
      generalize hS : src g.E H (tsize P e) y = S at *
      obtain ⟨sp, m, gs⟩ := S
      simp only at n1 n2 n3 n4 n5 htg hsr hb hmax ⊢
      rw [hby] at hb
      -- a new block of these elements
      have fresh : ∀ (H1 : List AB) (w1 : World), Sat g ρ H1 w1 → H1.length = H.length → ∀ (len : Nat) (fs : Nat → List SV) (olds : List Value) (cap : Nat), olds.length = len * tsize P e → len + m ≤ cap →
          (∀ k j s, k < len → j < tsize P e → (fs k)[j]? = some s → ∃ x, olds[k * tsize P e + j]? = some x ∧ R ρ s x) →
          ∃ ρ', Env.le ρ ρ' ∧ Sat g ρ' (H1 ++ [.lst (len + m) (tsize P e) (app len fs gs) e]) (w1.alloc (.cells (olds.toArray ++ news.toArray ++ Builtin.zeroCells zv.cells (cap - (len + m))) e)) ∧
            R ρ' (.lst H.length (tsize P e) 0 (len + m)) (.slice (some ⟨w1.heap.size, 0, none⟩) (len + m) cap) := by
        intro H1 w1 hs1 hl1 len fs olds cap ho hcap hold
        have hzc : zv.cells.size = tsize P e := by simpa using hzl
        obtain ⟨ρ', k1, k2, k3⟩ := sList_sat hs1 (len + m) cap (tsize P e) (app len fs gs) (olds.toArray ++ news.toArray ++ Builtin.zeroCells zv.cells (cap - (len + m))) e hcap (by
          simp only [Array.size_append, List.size_toArray, ho, n1, size_zeroCells, hzc]
          rw [← Nat.add_mul, ← Nat.add_mul]; congr 1; omega) (by
          intro k j s hk hj hf
          unfold app at hf
          by_cases q : k < len
          · rw [if_pos q] at hf
            obtain ⟨x, hx, hr⟩ := hold k j s q hj hf
            have hlt : k * tsize P e + j < olds.length := by
              rcases Nat.lt_or_ge (k * tsize P e + j) olds.length with z | z
              · exact z
              · rw [List.getElem?_eq_none z] at hx; cases hx
            refine ⟨x, ?_, hr⟩
            rw [Array.append_assoc, Array.getElem?_append_left (by simpa using hlt)]
            simpa using hx
          · rw [if_neg q] at hf
            obtain ⟨x, hx, hr⟩ := n5 (k - len) j s (by omega) hj hf
            have hlt : (k - len) * tsize P e + j < news.length := by
              rcases Nat.lt_or_ge ((k - len) * tsize P e + j) news.length with z | z
              · exact z
              · rw [List.getElem?_eq_none z] at hx; cases hx
            have hk' : k * tsize P e = len * tsize P e + (k - len) * tsize P e := by rw [← Nat.add_mul]; congr 1; omega
            refine ⟨x, ?_, hr⟩
            rw [Array.append_assoc, Array.getElem?_append_right (by simp; omega), Array.getElem?_append_left (by simp; omega)]
            simp only [List.size_toArray, ho, List.getElem?_toArray]
            rwa [show k * tsize P e + j - len * tsize P e = (k - len) * tsize P e + j by omega])
        rw [hl1] at k3
        exact ⟨ρ', k1, k2, k3⟩
      -- a target that is nil
      have nil : ∀ (H1 : List AB), Sat g ρ H1 w → H1.length = H.length → ∀ fs, ∃ ρ' v w', (Builtin.append_ #[t, t] ty #[.slice none 0 0, .slice ao m c]).run P w = .ok v w' ∧ Env.le ρ ρ' ∧
          Sat g ρ' (H1 ++ [.lst (0 + m) (tsize P e) (app 0 fs gs) e]) w' ∧ R ρ' (.lst H.length (tsize P e) 0 (0 + m)) v := by
        intro H1 hs1 hl1 fs
        rcases Nat.eq_zero_or_pos m with rfl | hm
        · exact ⟨ρ, _, w, run_app_none w t ty e i (telem_some he) g1 none ao 0 0 c (Nat.le_refl _), Env.le_refl _, hs1.pushNil _ _ _, by simp [R]⟩
        · have hmb : m * i.bytes ≤ ((tgt H (tsize P e) e x).2.1 + m) * i.bytes := Nat.mul_le_mul_right _ (Nat.le_add_left _ _)
          cases ao with
          | none => have := n3 rfl; omega
          | some a =>
            obtain ⟨ρ', k1, k2, k3⟩ := fresh H1 w.drew hs1.drew hl1 0 fs [] (grownCap w m 0 e) (by simp) (by have := grown_ge w m 0 e; omega) (by intro k j s hk; omega)
            refine ⟨ρ', _, _, run_append_nil (P := P) w t ty e i zv (telem_some he) g1 g2 a m c news (by rw [n1, hsz]) (n2 a rfl) hm (by omega) (by omega), k1, ?_, ?_⟩
            · simpa using k2
            · simpa using k3
      unfold tgt at htg hb hmax ⊢
      split at htg
      · simp only [R] at hx
        subst hx
        exact nil H hs rfl _
      · rename_i i0 sz' off len
        split at htg
        · rename_i n sz'' f ty' hg
          obtain ⟨e1, e2, e3, e4⟩ := htg
          subst e1; subst e2; subst e4
          simp only [hg] at hb hmax
          simp only [hset_eq]
          have hkill := hs.kill i0
          have hi0 := hget_some (H := H) (i := i0) (by rw [hg]; rfl)
          simp only [R] at hx
          rcases hx with ⟨rfl, rfl⟩ | ⟨b, cc, a, r1, r2, rfl, r4⟩
          · exact nil _ hkill (by simp) _
          · have hb0 := hs.blk i0 _ hi0
            rw [hg] at hb0 hi0
            -- the case of a list of capacity nothing, and of nothing to append
            by_cases hroom : len + m ≤ cc.1 - off
            · -- in place
              have haddr : ∃ bo : Nat × Nat, a = ⟨bo.1, bo.2, none⟩ ∨ off = cc.1 := by
                rcases Nat.lt_or_ge off cc.1 with q | q
                · exact ⟨(_, _), .inl (r4 q)⟩
                · exact ⟨(0, 0), .inr (by omega)⟩
              rcases Nat.eq_zero_or_pos m with rfl | hm
              · refine ⟨ρ.ext H.length (b, (cc.1 - off, cc.2 + off * tsize P ty')), _, w, run_app_none w t ty ty' i (telem_some he) g1 (some a) ao len (cc.1 - off) c (by omega), Env.le_ext (hs.out _ (Nat.le_refl _)), hs.move hi0 rfl r1 ?_, ?_⟩
                · rcases hb0 with ⟨e0, h0⟩ | ⟨b', c', arr, x1, x2, x3, x4, x5⟩
                  · rw [r1] at h0; cases h0
                  rw [r1] at x1; cases x1
                  refine .inr ⟨b, (cc.1 - off, cc.2 + off * tsize P ty'), arr, by simp [Env.ext], x2, by simp; omega, ?_, ?_⟩
                  · simp only
                    rw [x4, Nat.add_assoc, ← Nat.add_mul]; congr 2; omega
                  · intro k j s hk hj hf
                    unfold app at hf
                    rw [if_pos (by omega)] at hf
                    obtain ⟨x, hx', hr⟩ := x5 (off + k) j s (by omega) hj hf
                    refine ⟨x, ?_, R.mono (Env.le_ext (hs.out _ (Nat.le_refl _))) _ _ hr⟩
                    simp only
                    rwa [show cc.2 + off * tsize P ty' + k * tsize P ty' + j = cc.2 + (off + k) * tsize P ty' + j by rw [Nat.add_mul]; omega]
                · simp only [R]
                  refine .inr ⟨b, (cc.1 - off, cc.2 + off * tsize P ty'), a, by simp [Env.ext], by simp; omega, by simp, ?_⟩
                  intro hlt
                  simp only at hlt ⊢
                  rw [r4 (by omega)]
                  simp
              · have ha := r4 (by omega)
                subst ha
                cases ao with
                | none => have := n3 rfl; omega
                | some ad =>
                  rcases hb0 with ⟨e0, h0⟩ | ⟨b', c', arr, x1, x2, x3, x4, x5⟩
                  · rw [r1] at h0; cases h0
                  rw [r1] at x1; cases x1
                  have hfit : cc.2 + off * tsize P ty' + len * tsize P ty' + news.length ≤ arr.size := by
                    rw [n1, x4, Nat.add_assoc, Nat.add_assoc, ← Nat.add_mul, ← Nat.add_mul]
                    have := Nat.mul_le_mul_right (tsize P ty') (show off + (len + m) ≤ cc.1 by omega)
                    omega
                  have hrun := run_app_room (P := P) w t ty ty' i (telem_some he) g1 b (cc.2 + off * tsize P ty') len (cc.1 - off) arr ty' x2 ad m c news (by rw [n1, hsz]) (n2 ad rfl) n4 (by omega) (by rw [← hsz]; exact hfit)
                  -- the block, written; then moved
                  have hup := hs.upd (ab' := .lst (off + len + m) (tsize P ty') (fun k => if k < off + len then f k else gs (k - (off + len))) ty') (w' := w.setRow b (arr.toList.take (cc.2 + off * tsize P ty' + len * i.size) ++ news ++ arr.toList.drop (cc.2 + off * tsize P ty' + len * i.size + news.length)).toArray) hi0 rfl r1 rfl rfl rfl rfl (by simp) (fun k hne => setRow_other w b k _ hne) (by
                    rw [← hsz]
                    refine .inr ⟨b, cc, _, r1, setRow_heap w b arr _ ty' _ x2, by omega, ?_, ?_⟩
                    · simp only [List.size_toArray, List.length_append, List.length_take, List.length_drop, Array.length_toList]
                      omega
                    · intro k j s hk hj hf
                      rw [List.getElem?_toArray, splice_get _ _ _ (by simpa using hfit)]
                      by_cases q : k < off + len
                      · simp only [if_pos q] at hf
                        obtain ⟨x, hx', hr⟩ := x5 k j s (by omega) hj hf
                        have hm2 : k * tsize P ty' + tsize P ty' ≤ (off + len) * tsize P ty' := by
                          have := Nat.mul_le_mul_right (tsize P ty') (show k + 1 ≤ off + len by omega)
                          rwa [Nat.succ_mul] at this
                        rw [Nat.add_mul] at hm2
                        rw [if_pos (by omega)]
                        exact ⟨x, by simpa using hx', hr⟩
                      · simp only [if_neg q] at hf
                        obtain ⟨x, hx', hr⟩ := n5 (k - (off + len)) j s (by omega) hj hf
                        have hlt : (k - (off + len)) * tsize P ty' + j < news.length := by
                          rcases Nat.lt_or_ge ((k - (off + len)) * tsize P ty' + j) news.length with z | z
                          · exact z
                          · rw [List.getElem?_eq_none z] at hx'; cases hx'
                        have hk' : k * tsize P ty' = off * tsize P ty' + len * tsize P ty' + (k - (off + len)) * tsize P ty' := by
                          rw [← Nat.add_mul, ← Nat.add_mul]; congr 1; omega
                        rw [if_neg (by omega), if_pos (by omega)]
                        exact ⟨x, by rwa [show cc.2 + k * tsize P ty' + j - (cc.2 + off * tsize P ty' + len * tsize P ty') = (k - (off + len)) * tsize P ty' + j by omega], hr⟩)
                  have hi1 : (H.set i0 (.lst (off + len + m) (tsize P ty') (fun k => if k < off + len then f k else gs (k - (off + len))) ty'))[i0]? = some (.lst (off + len + m) (tsize P ty') (fun k => if k < off + len then f k else gs (k - (off + len))) ty') := by
                    have hlt : i0 < H.length := by
                      rcases Nat.lt_or_ge i0 H.length with z | z
                      · exact z
                      · rw [List.getElem?_eq_none z] at hi0; cases hi0
                    simp [hlt]
                  have hmv := hup.move (c' := (cc.1 - off, cc.2 + off * tsize P ty')) (ab' := .lst (len + m) (tsize P ty') (app len (fun k => f (off + k)) gs) ty') hi1 rfl r1 (by
                    have hbb := hup.blk i0 _ hi1
                    rcases hbb with ⟨e0, h0⟩ | ⟨b', c', arr', y1, y2, y3, y4, y5⟩
                    · rw [r1] at h0; cases h0
                    rw [r1] at y1; cases y1
                    refine .inr ⟨b, (cc.1 - off, cc.2 + off * tsize P ty'), arr', by simp [Env.ext], y2, by simp; omega, ?_, ?_⟩
                    · simp only
                      rw [y4, Nat.add_assoc, ← Nat.add_mul]; congr 2; omega
                    · intro k j s hk hj hf
                      have hf' : ((fun k => if k < off + len then f k else gs (k - (off + len))) (off + k))[j]? = some s := by
                        unfold app at hf
                        by_cases q : k < len
                        · rw [if_pos q] at hf
                          simp only [if_pos (show off + k < off + len by omega)]
                          exact hf
                        · rw [if_neg q] at hf
                          simp only [if_neg (show ¬ off + k < off + len by omega)]
                          rwa [show off + k - (off + len) = k - len by omega]
                      obtain ⟨x, hx', hr⟩ := y5 (off + k) j s (by omega) hj hf'
                      refine ⟨x, ?_, R.mono (Env.le_ext (hup.out _ (Nat.le_refl _))) _ _ hr⟩
                      simp only
                      rwa [show cc.2 + off * tsize P ty' + k * tsize P ty' + j = cc.2 + (off + k) * tsize P ty' + j by rw [Nat.add_mul]; omega])
                  simp only [List.length_set, List.set_set] at hmv
                  refine ⟨_, _, _, hrun, Env.le_ext (hs.out _ (Nat.le_refl _)), hmv, ?_⟩
                  simp only [R]
                  exact .inr ⟨b, (cc.1 - off, cc.2 + off * tsize P ty'), ⟨b, cc.2 + off * tsize P ty', none⟩, by simp [Env.ext], by simp; omega, by simp, by simp⟩
            · -- a new block
              have hm : 0 < m := by omega
              cases ao with
              | none => have := n3 rfl; omega
              | some ad =>
                have hold : ∃ olds : List Value, olds.length = len * tsize P ty' ∧ (∀ j v, olds[j]? = some v → w.cell? (a.add j) = some v) ∧
                    ∀ k j s, k < len → j < tsize P ty' → (f (off + k))[j]? = some s → ∃ x, olds[k * tsize P ty' + j]? = some x ∧ R ρ s x := by
                  rcases Nat.eq_zero_or_pos len with rfl | hlen
                  · exact ⟨[], by simp, by simp, fun k j s hk => by omega⟩
                  · have ha := r4 (by omega)
                    subst ha
                    rcases hb0 with ⟨e0, h0⟩ | ⟨b', c', arr, x1, x2, x3, x4, x5⟩
                    · omega
                    rw [r1] at x1; cases x1
                    have hlen2 : cc.2 + off * tsize P ty' + len * tsize P ty' ≤ arr.size := by
                      rw [x4, Nat.add_assoc, ← Nat.add_mul]
                      have := Nat.mul_le_mul_right (tsize P ty') (show off + len ≤ cc.1 by omega)
                      omega
                    refine ⟨(arr.toList.drop (cc.2 + off * tsize P ty')).take (len * tsize P ty'), by simp; omega, ?_, ?_⟩
                    · intro j v hv
                      rw [List.getElem?_take] at hv
                      split at hv
                      · rw [addr_add, cell_of w b _ arr _ _ x2]
                        simpa using hv
                      · cases hv
                    · intro k j s hk hj hf
                      obtain ⟨x, hx', hr⟩ := x5 (off + k) j s (by omega) hj hf
                      refine ⟨x, ?_, hr⟩
                      have hkl : k * tsize P ty' + tsize P ty' ≤ len * tsize P ty' := by
                        have := Nat.mul_le_mul_right (tsize P ty') (show k + 1 ≤ len by omega)
                        rwa [Nat.succ_mul] at this
                      rw [List.getElem?_take, if_pos (by omega), List.getElem?_drop]
                      rw [Array.getElem?_toList]
                      rwa [show cc.2 + off * tsize P ty' + (k * tsize P ty' + j) = cc.2 + (off + k) * tsize P ty' + j by rw [Nat.add_mul]; omega]
                obtain ⟨olds, o1, o2, o3⟩ := hold
                obtain ⟨ρ', k1, k2, k3⟩ := fresh (H.set i0 .dead) w.drew hkill.drew (by simp) len (fun k => f (off + k)) olds (grownCap w (len + m) (cc.1 - off) ty') o1 (grown_ge _ _ _ _) o3
                refine ⟨ρ', _, _, run_append_grow (P := P) w t ty ty' i zv (telem_some he) g1 g2 a len (cc.1 - off) olds (by rw [o1, hsz]) o2 ad m c news (by rw [n1, hsz]) (n2 ad rfl) (by omega) (by omega) (growslice_fits (by omega) (by omega)), k1, k2, ?_⟩
                simpa using k3
        · exact htg.elim
      · exact htg.elim
    · exact h.elim
  · exact h.elim

end Go.Proofs.Ytmnpnnegnlhemaa.Eng
namespace Go.Proofs.Ytmnpnnegnlhemaa.Eng
open Go

/-! ### Calls -/
def HasBody (P : Program) (f : FuncId) : Prop := ∃ fn, P.funcs[f]? = some fn ∧ (fn.name == "runtime.NumGoroutine") = false ∧ fn.body.isNone = false

/-- A function, called with these symbolic values over this abstract heap, returns this value and leaves this heap. -/
def Ok (P : Program) (E : Addr → Option Value) (f : FuncId) (args : List SV) (H : List AB) (v : SV) (H' : List AB) : Prop :=
  HasBody P f ∧ H.length ≤ H'.length ∧ ∀ (g : G) (ρ : Env) (w : World) (vargs : List Value), g.E = E → Sat g ρ H w → RL ρ args vargs →
    Calls P f vargs.toArray w fun e w' => ∃ ρ' x, e = .returned x ∧ Env.le ρ ρ' ∧ Sat g ρ' H' w' ∧ R ρ' v x

/-- A round, begun by a call of yield. -/
def YOk (P : Program) (E : Addr → Option Value) (l : Nat) (args : List SV) (H : List AB) (v : SV) (H' : List AB) : Prop :=
  H.length ≤ H'.length ∧ ∀ (g : G) (ρ : Env) (w : World) (vargs : List Value), g.E = E → Sat g ρ H w → RL ρ args vargs →
    ∃ fn tmps assign body, (Instr.yield l vargs.toArray).run P w = .ok (.round l fn tmps assign body) w ∧
      RoundIn Fence.wide 0 P l fn tmps assign body w fun e w' => ∃ ρ' x, e = .returned x ∧ Env.le ρ ρ' ∧ Sat g ρ' H' w' ∧ R ρ' v x

/-- What is known of the functions (and rounds) that are called. -/
abbrev Con := Fn → List SV → List AB → Res

def OkF (P : Program) (E : Addr → Option Value) : Fn → List SV → List AB → SV → List AB → Prop
  | .func f, args, H, v, H' => Ok P E f args H v H'
  | .yield l, args, H, v, H' => YOk P E l args H v H'
  | _, _, _, _, _ => False

def Con.Sound (P : Program) (E : Addr → Option Value) (Γ : Con) : Prop := ∀ f args H, (Γ f args H).pre → OkF P E f args H (Γ f args H).val (Γ f args H).heap

/-! ### Small operations -/
def sNil (H : List AB) : SV → Res
  | .ptr i o => ⟨True, .ptr i o, H⟩
  | .pel i sz k j => ⟨True, .pel i sz k j, H⟩
  | .fn f a b => match f with
    | .func _ | .via _ _ _ _ | .methodOf _ _ | .yield _ => ⟨True, .fn f a b, H⟩
    | _ => no
  | .raw (.pointer (some a)) => ⟨True, .raw (.pointer (some a)), H⟩
  | _ => no

def strip : SV → Bool × SV
  | .opt g v => (g, v)
  | s => (true, s)

def sPick (H : List AB) (c a b : SV) : Res :=
  match c, strip a, strip b with
  | .raw (.bool c), (ga, .raw (.bool x)), (gb, .raw (.bool y)) => ⟨(c = true → ga = true) ∧ (c = false → gb = true), .raw (.bool (bif c then x else y)), H⟩
  | _, _, _ => no

def sExtract (H : List AB) (i : Nat) : SV → Res
  | .tup vs => match vs[i]? with
    | some v => ⟨True, v, H⟩
    | none => no
  | _ => no

def sMax (H : List AB) : List SV → Res
  | [.raw (.int k x), .raw (.int _ y)] => ⟨True, .raw (.int k (max x y)), H⟩
  | _ => no
def sMin (H : List AB) : List SV → Res
  | [.raw (.int k x), .raw (.int _ y)] => ⟨True, .raw (.int k (min x y)), H⟩
  | _ => no

/-- An array's element, by value. -/
def sAt (P : Program) (H : List AB) (t : TypeId) (x ix : SV) : Res :=
  match tarr P t, x, ix with
  | some (len, e), .agg cs, .raw (.int _ n) => ⟨tknown P e = true ∧ tagg P e = false ∧ tsize P e = 1 ∧ 0 ≤ n ∧ n < (len : Int) ∧ n.toNat < cs.length, hd1 ((cs.drop n.toNat).take 1), H⟩
  | _, _, _ => no

def sMap (H : List AB) (q : Option Nat) : Res := ⟨holeAt H q, .mapv (idxAt H q), pushAt H (.map []) q⟩

def hasKey (k : IntKind) (n : Int) : List (Value × SV) → Prop × Bool
  | [] => (True, false)
  | (.int k' m, _) :: l => (k' = k ∧ (hasKey k n l).1, decide (n = m) || (hasKey k n l).2)
  | _ => (False, false)

def sInsert (P : Program) (H : List AB) (t : TypeId) (m k x : SV) : Res :=
  match m, k with
  | .mapv i, .raw (.int kd n) => match hget H i with
    | .map es => match P.underlying t with
      | some (.map kt _) => ⟨tint P kt = some kd ∧ (hasKey kd n es).1 ∧ (hasKey kd n es).2 = false, .junk, hset H i (.map (es ++ [(.int kd n, x)]))⟩
      | _ => no
    | _ => no
  | _, _ => no

def findK (n : Int) : List (Value × SV) → Option SV
  | [] => none
  | (.int _ m, s) :: l => match decide (n = m) with
    | true => some s
    | false => findK n l
  | _ :: l => findK n l

def tzv (P : Program) (t : TypeId) : Option Value := (P.info? t).bind (·.zero)

def sLookup (P : Program) (H : List AB) (t : TypeId) (m k : SV) : Res :=
  match m, k with
  | .mapv i, .raw (.int kd n) => match hget H i with
    | .map es => match P.underlying t with
      | some (.map kt et) => match tzv P et with
        | some z => match findK n es with
          | some s => ⟨tint P kt = some kd ∧ (hasKey kd n es).1, .tup [s, .raw (.bool true)], H⟩
          | none => ⟨tint P kt = some kd ∧ (hasKey kd n es).1, .tup [.raw z, .raw (.bool false)], H⟩
        | _ => no
      | _ => no
    | _ => no
  | _, _ => no

/-! ### The operation -/
def sCall (Γ : Con) (H : List AB) (f : SV) (args : List SV) : Res :=
  match f with
  | .raw (.func (.func f) a b) => ⟨(a = #[] ∧ b = #[]) ∧ (Γ (.func f) args H).pre, (Γ (.func f) args H).val, (Γ (.func f) args H).heap⟩
  | .fn (.func f) first cap => Γ (.func f) (first ++ args ++ cap) H
  | _ => no

def sBuiltin (P : Program) (E : Addr → Option Value) (H : List AB) (b : Builtin) (argTypes : List TypeId) (args : List SV) : Res :=
  match b, argTypes, args with
  | .len, [t], [x] => sLen P H t x
  | .append, [t, t'], [x, y] => match decide (t = t') with
    | true => sApp P E H t x y
    | false => no
  | .max, _, xs => sMax H xs
  | .min, _, xs => sMin H xs
  | _, _, _ => no

/-- The operands, taken out of what guards them. -/
def unw (ev : Operand → SV) (x : Operand) : SV := (strip (ev x)).2

def sop (P : Program) (E : Addr → Option Value) (Γ : Con) (q : Option Nat) (H : List AB) (ev : Operand → SV) (o : Op) : Res :=
  match o with
  | .move x | .assign x => ⟨True, unw ev x, H⟩
  | .pick c a b => sPick H (unw ev c) (ev a) (ev b)
  | .alloc t => sAlloc P H q t
  | .box t x => sBox H q t (unw ev x)
  | .build t ps => sBuild P H t (ps.toList.map fun x => (x.1, unw ev x.2))
  | .buildSlice t len ps => sLit P H q t len (ps.toList.map fun x => (x.1, unw ev x.2))
  | .load t a => sLoad P E H t (unw ev a)
  | .store t a x => sStore P H t (unw ev a) (unw ev x)
  | .nilCheck x => sNil H (unw ev x)
  | .binOp op t x y _ => sBin P H op t (unw ev x) (unw ev y)
  | .unOp op _ x => sUn H op (unw ev x)
  | .convert s d x => sConv P H s d (unw ev x)
  | .makeFunc f a b => ⟨True, .fn f (a.toList.map (unw ev)) (b.toList.map (unw ev)), H⟩
  | .makeMap _ none => sMap H q
  | .makeSlice t l c => sMake P H q t (unw ev l) (unw ev c)
  | .slice t x (some lo) none none => sSlice P H t (unw ev x) (unw ev lo)
  | .fieldAddr t x f => sField P H t f (unw ev x)
  | .field t x f => sPart P H t f (unw ev x)
  | .indexAddr t x i => sIndex P H t (unw ev x) (unw ev i)
  | .index t x i => sAt P H t (unw ev x) (unw ev i)
  | .lookup t m k true => sLookup P H t (unw ev m) (unw ev k)
  | .insert t m k x => sInsert P H t (unw ev m) (unw ev k) (unw ev x)
  | .extract t i => sExtract H i (unw ev t)
  | .call c => match c.callee with
    | .builtin b => sBuiltin P E H b c.argTypes.toList (c.args.toList.map (unw ev))
    | .value f => sCall Γ H (unw ev f) (c.args.toList.map (unw ev))
    | _ => no
  | _ => no

/-- The operands that must be there. -/
def needs (ev : Operand → SV) (gd : Bool) : List Operand → Prop
  | [] => True
  | x :: l => (match ev x with | .opt g _ => (gd = true → g = true) | _ => True) ∧ needs ev gd l

def opNeeds : Op → List Operand
  | .pick c _ _ => [c]
  | .move x | .assign x | .box _ x | .load _ x | .nilCheck x | .unOp _ _ x | .convert _ _ x | .fieldAddr _ x _ | .field _ x _ | .extract x _ => [x]
  | .store _ x y | .binOp _ _ x y _ | .makeSlice _ x y | .indexAddr _ x y | .index _ x y | .lookup _ x y _ => [x, y]
  | .slice _ x (some lo) _ _ => [x, lo]
  | .insert _ x y z => [x, y, z]
  | .build _ ps | .buildSlice _ _ ps => ps.toList.map (·.2)
  | .makeFunc _ f c => f.toList ++ c.toList
  | .call c => match c.callee with
    | .value f => f :: c.args.toList
    | _ => c.args.toList
  | _ => []

theorem needs_spec {ev : Operand → SV} {gd : Bool} (hg : gd = true) : ∀ {l : List Operand}, needs ev gd l → ∀ x ∈ l, ∀ {ρ : Env} {v : Value}, R ρ (ev x) v → R ρ (unw ev x) v
  | [], _, x, hx, _, _, _ => by simp at hx
  | y :: l, h, x, hx, ρ, v, hr => by
    simp only [needs] at h
    rcases List.mem_cons.1 hx with rfl | hx
    · unfold unw
      cases he : ev x with
      | opt g s =>
        rw [he] at h hr
        simp only [R] at hr
        exact hr.1 (h.1 hg)
      | _ => rw [he] at hr; exact hr
    · exact needs_spec hg h.2 x hx hr

end Go.Proofs.Ytmnpnnegnlhemaa.Eng
namespace Go.Proofs.Ytmnpnnegnlhemaa.Eng
open Go

section
variable {P : Program} {a : Act} {w w' : World} {K : Act → World → Prop} {Q : Exit → Act → World → Prop} {o : Oper}

theorem wp_value {s : Sem Value} {x : Value} (h : execOp a.eval o = (do pure (.value (← s)) : Sem Next)) (hr : s.run P w = .ok x w') (hk : K (a.put o.dst x) w') : o.wp P a w K Q := by
  unfold Oper.wp
  rw [h, Sem.run_bind, hr]
  exact hk

theorem wp_unit {s : Sem Unit} (h : execOp a.eval o = (do s; pure .skip : Sem Next)) (hr : s.run P w = .ok () w') (hk : K (a.put o.dst undef) w') : o.wp P a w K Q := by
  unfold Oper.wp
  rw [h, Sem.run_bind, hr]
  exact hk

theorem wp_pure {x : Value} (h : execOp a.eval o = (pure (.value x) : Sem Next)) (hk : K (a.put o.dst x) w) : o.wp P a w K Q := by
  unfold Oper.wp
  rw [h]
  exact hk
end

theorem RL.mapR {ρ : Env} {α : Type} (f : α → SV) (h : α → Value) : ∀ (l : List α), (∀ x ∈ l, R ρ (f x) (h x)) → RL ρ (l.map f) (l.map h)
  | [], _ => by simp [RL]
  | x :: l, hh => by
    simp only [List.map_cons, RL]
    exact ⟨hh x (by simp), RL.mapR f h l (fun y hy => hh y (by simp [hy]))⟩

theorem hasKey_spec {ρ : Env} {k : IntKind} {n : Int} : ∀ (es : List (Value × SV)) (q : Nat) (l : List MapEntry), (hasKey k n es).1 → REnts ρ q es l →
    ((hasKey k n es).2 = false → ∀ i, Instr.findNow (.int k) (.int k n) l i = some none) ∧
    (∀ s, findK n es = some s → ∀ i, ∃ j v, Instr.findNow (.int k) (.int k n) l i = some (some (j, v)) ∧ R ρ s v) ∧
    (findK n es = none → ∀ i, Instr.findNow (.int k) (.int k n) l i = some none)
  | [], q, [], _, _ => ⟨fun _ i => rfl, fun s h => by simp [findK] at h, fun _ i => rfl⟩
  | [], q, _ :: _, _, h => by simp only [REnts] at h
  | e0 :: _, q, [], _, h => by obtain ⟨a, b⟩ := e0; simp only [REnts] at h
  | (kv, s) :: es, q, e :: l, hp, h => by
    simp only [REnts] at h
    obtain ⟨h1, h2, h3, h4⟩ := h
    unfold hasKey at hp
    split at hp
    · rename_i heq; cases heq
    · rename_i k' m s' l' heq
      cases heq
      obtain ⟨rfl, hp⟩ := hp
      obtain ⟨i1, i2, i3⟩ := hasKey_spec es (q + 1) l hp h4
      by_cases hnm : n = m
      · subst hnm
        have hf : ∀ i, Instr.findNow (.int k') (.int k' n) (e :: l) i = some (some (i, e.val)) := fun i => by
          simp [Instr.findNow, h1, Instr.sameNow]
        refine ⟨fun hh => by simp [hasKey] at hh, fun s2 hs2 i => ?_, fun hh => by simp [findK] at hh⟩
        simp [findK] at hs2
        subst hs2
        exact ⟨i, e.val, hf i, h2⟩
      · have hf : ∀ i, Instr.findNow (.int k') (.int k' n) (e :: l) i = Instr.findNow (.int k') (.int k' n) l (i + 1) := fun i => by
          have hb : (n == m) = false := by simpa using hnm
          simp only [Instr.findNow, h1, Instr.sameNow, if_true, hb]
        refine ⟨fun hh i => ?_, fun s2 hs2 i => ?_, fun hh i => ?_⟩
        · rw [hf]; exact i1 (by simpa [hasKey, hnm] using hh) _
        · rw [hf]; exact i2 s2 (by simpa [findK, hnm] using hs2) _
        · rw [hf]; exact i3 (by simpa [findK, hnm] using hh) _
    · exact hp.elim

theorem REnts_push {ρ : Env} {k : Value} {s : SV} {v : Value} (hr : R ρ s v) : ∀ (es : List (Value × SV)) (q : Nat) (l : List MapEntry), REnts ρ q es l → REnts ρ q (es ++ [(k, s)]) (l ++ [{ key := k, val := v, born := q + es.length }])
  | [], q, [], _ => by simp only [List.nil_append, REnts, List.length_nil, Nat.add_zero, and_true, true_and]; exact hr
  | [], q, _ :: _, h => by simp only [REnts] at h
  | e0 :: _, q, [], h => by obtain ⟨a, b⟩ := e0; simp only [REnts] at h
  | (kv, s0) :: es, q, e :: l, h => by
    simp only [REnts] at h
    obtain ⟨h1, h2, h3, h4⟩ := h
    have ih := REnts_push (k := k) hr es (q + 1) l h4
    simp only [List.cons_append, REnts, List.length_cons]
    refine ⟨h1, h2, h3, ?_⟩
    rw [show q + (es.length + 1) = q + 1 + es.length by omega]
    exact ih

theorem run_checkKey_int {P : Program} {kt : TypeId} {kd : IntKind} (h : tint P kt = some kd) (em : Bool) (v : Value) (w : World) : (Instr.checkKey em 10000 kt v).run P w = .ok () w := by
  have k : ∀ d : Nat, (Instr.checkKey em (d + 1) kt v).run P w = .ok () w := fun d => by
    simp [Instr.checkKey, run_underlying (tint_some h)]
  exact k 9999

theorem run_findKey {P : Program} {kt : TypeId} {kd : IntKind} (h : tint P kt = some kd) (v : Value) (l : List MapEntry) (r : Option (Nat × Value)) (hf : Instr.findNow (.int kd) v l 0 = some r) (w : World) : (Instr.findKey kt v l).run P w = .ok r w := by
  simp [Instr.findKey, run_underlying (tint_some h), hf]

theorem sLookup_sound {P : Program} {g : G} {ρ : Env} {H : List AB} {w : World} (hs : Sat g ρ H w) {t : TypeId} {m k : SV} {vm vk : Value} (hm : R ρ m vm) (hk : R ρ k vk) (h : (sLookup P H t m k).pre) :
    (sLookup P H t m k).heap = H ∧ ∃ x, (∀ w', w'.heap = w.heap → (Instr.lookup t vm vk true).run P w' = .ok x w') ∧ R ρ (sLookup P H t m k).val x := by
  unfold sLookup at h ⊢
  split at h
  · rename_i i kd n
    simp only [R] at hm hk
    obtain ⟨b, c, e1, rfl⟩ := hm
    subst hk
    split at h
    · rename_i es hg
      have hb := hs.blk i _ (hget_some (H := H) (i := i) (by rw [hg]; rfl))
      rw [hg] at hb
      obtain ⟨b', c', l, x1, x2, x3⟩ := hb
      rw [e1] at x1; cases x1
      split at h
      · rename_i kt et hu
        split at h
        · rename_i z hz
          split at h
          · rename_i s hf
            obtain ⟨h1, h2⟩ := h
            obtain ⟨j, v, f1, f2⟩ := (hasKey_spec es 0 l.toList h2 x3).2.1 s hf 0
            refine ⟨rfl, .tuple #[v, .bool true], fun w' e => ?_, ?_⟩
            · have hh : w'.heap[b]? = some (.map l es.length) := by rw [e]; exact x2
              simp [Instr.lookup, run_underlying hu, getObj, Sem.run, hh, run_checkKey_int h1, run_findKey h1 _ _ _ f1]
            · simp only [R]
              exact ⟨_, rfl, by simp only [RL, R]; exact ⟨f2, trivial, trivial⟩⟩
          · rename_i hf
            obtain ⟨h1, h2⟩ := h
            have f1 := (hasKey_spec es 0 l.toList h2 x3).2.2 hf 0
            refine ⟨rfl, .tuple #[z, .bool false], fun w' e => ?_, ?_⟩
            · have hh : w'.heap[b]? = some (.map l es.length) := by rw [e]; exact x2
              unfold tzv at hz
              cases hi : P.info? et with
              | none => simp [hi] at hz
              | some ti =>
                simp only [hi, Option.bind_some] at hz
                simp [Instr.lookup, run_underlying hu, getObj, Sem.run, hh, run_checkKey_int h1, run_findKey h1 _ _ _ f1, zeroValue, typeInfo, hi, hz]
            · simp only [R]
              exact ⟨_, rfl, by simp only [RL, R]; exact ⟨trivial, trivial, trivial⟩⟩
        · exact h.elim
      · exact h.elim
    · exact h.elim
  · exact h.elim

theorem sInsert_sound {P : Program} {g : G} {ρ : Env} {H : List AB} {w : World} (hs : Sat g ρ H w) {t : TypeId} {m k x : SV} {vm vk vx : Value} (hm : R ρ m vm) (hk : R ρ k vk) (hx : R ρ x vx) (h : (sInsert P H t m k x).pre) :
    ∃ w', (Instr.mapUpdate t vm vk vx).run P w = .ok () w' ∧ Sat g ρ (sInsert P H t m k x).heap w' := by
  unfold sInsert at h ⊢
  split at h
  · rename_i i kd n
    simp only [R] at hm hk
    obtain ⟨b, c, e1, rfl⟩ := hm
    subst hk
    split at h
    · rename_i es hg
      have hi := hget_some (H := H) (i := i) (by rw [hg]; rfl)
      have hb := hs.blk i _ hi
      rw [hg] at hb hi
      obtain ⟨b', c', l, x1, x2, x3⟩ := hb
      rw [e1] at x1; cases x1
      split at h
      · rename_i kt et hu
        obtain ⟨h1, h2, h3⟩ := h
        have f1 := (hasKey_spec es 0 l.toList h2 x3).1 h3 0
        have hrun : (Instr.mapUpdate t (.map (some b)) (.int kd n) vx).run P w = .ok () { w with heap := w.heap.setIfInBounds b (.map (l.push { key := .int kd n, val := vx, born := es.length }) (es.length + 1)) } := by
          simp [Instr.mapUpdate, run_underlying hu, getObj, setObj, Sem.run, x2, run_checkKey_int h1, run_findKey h1 _ _ _ f1]
        have hlt : b < w.heap.size := (Array.getElem?_eq_some_iff.1 x2).1
        refine ⟨_, hrun, ?_⟩
        simp only [hset_eq]
        refine hs.upd hi rfl e1 rfl rfl rfl rfl (by simp) (fun j hne => ?_) ?_
        · simp [Ne.symm hne]
        · refine ⟨b, c, l.push { key := .int kd n, val := vx, born := es.length }, e1, by simp [hlt], ?_⟩
          have := REnts_push (k := .int kd n) hx es 0 l.toList x3
          simpa using this
      · exact h.elim
    · exact h.elim
  · exact h.elim

theorem RL.raw_nil {ρ : Env} {l : List Value} (h : RL ρ [] l) : l = [] := by
  cases l with
  | nil => rfl
  | cons _ _ => simp only [RL] at h

theorem sPick_sound {ρ : Env} {H : List AB} {c x y : SV} {vc vx vy : Value} (hc : R ρ c vc) (hx : R ρ x vx) (hy : R ρ y vy) (h : (sPick H c x y).pre) :
    (sPick H c x y).heap = H ∧ ∃ b : Bool, vc = .bool b ∧ R ρ (sPick H c x y).val (if b then vx else vy) := by
  unfold sPick at h ⊢
  split at h
  · rename_i b ga p gb q e1 e2
    simp only [R] at hc
    have str : ∀ {s : SV} {g : Bool} {v : Value} {r : Bool}, strip s = (g, .raw (.bool r)) → R ρ s v → g = true → v = .bool r := by
      intro s g v r he hr hg
      cases s with
      | opt g' s' =>
        simp only [strip, Prod.mk.injEq] at he
        obtain ⟨rfl, rfl⟩ := he
        simp only [R] at hr
        exact hr.1 hg
      | _ =>
        simp only [strip, Prod.mk.injEq] at he
        obtain ⟨rfl, he⟩ := he
        rw [he] at hr
        simpa only [R] using hr
    refine ⟨rfl, b, hc, ?_⟩
    cases b with
    | true => have := str e1 hx (h.1 rfl); simp [R, this]
    | false => have := str e2 hy (h.2 rfl); simp [R, this]
  · exact h.elim

theorem run_max2 {P : Program} (k k' : IntKind) (x y : Int) (w : World) : (Builtin.max_ #[] 0 #[.int k x, .int k' y]).run P w = .ok (.int k (max x y)) w := by
  have : max x y = if y > x then y else x := by omega
  rw [this]
  simp [Builtin.max_, Builtin.max2]

end Go.Proofs.Ytmnpnnegnlhemaa.Eng
namespace Go.Proofs.Ytmnpnnegnlhemaa.Eng
open Go

theorem run_max2' {P : Program} (ts : Array TypeId) (t : TypeId) (k k' : IntKind) (x y : Int) (w : World) : (Builtin.max_ ts t #[.int k x, .int k' y]).run P w = .ok (.int k (max x y)) w := by
  have : max x y = if y > x then y else x := by omega
  rw [this]
  simp [Builtin.max_, Builtin.max2]
theorem run_min2' {P : Program} (ts : Array TypeId) (t : TypeId) (k k' : IntKind) (x y : Int) (w : World) : (Builtin.min_ ts t #[.int k x, .int k' y]).run P w = .ok (.int k (min x y)) w := by
  have : min x y = if y < x then y else x := by omega
  rw [this]
  simp [Builtin.min_, Builtin.min2]

theorem sMap_sat {g : G} {ρ : Env} {H : List AB} {w : World} (hs : Sat g ρ H w) {q : Option Nat} (hq : holeAt H q) :
    ∃ ρ', Env.le ρ ρ' ∧ Sat g ρ' (pushAt H (.map []) q) (w.alloc (.map #[] 0)) ∧ R ρ' (.mapv (idxAt H q)) (.map (some w.heap.size)) := by
  have hat : (ρ.ext (idxAt H q) (w.heap.size, (0, 0))) (idxAt H q) = some (w.heap.size, (0, 0)) := by simp [Env.ext]
  obtain ⟨k1, k2⟩ := hs.newAt q hq (0, 0) (.map []) (.map #[] 0) (fun _ => ⟨_, _, #[], hat, heap_new w _, by simp [REnts]⟩)
  exact ⟨_, k1, k2, by simp only [R]; exact ⟨_, _, hat, rfl⟩⟩

section
variable {P : Program} {g : G} {ρ : Env} {H : List AB} {w : World} {Γ : Con} {q : Option Nat} {ev : Operand → SV} {a : Act} {o : Oper}

/-- A call, met by what is known of the function. -/
theorem call_sound (hs : Sat g ρ H w) (hΓ : Con.Sound P g.E Γ) {sf : SV} {vf : Value} {sargs : List SV} {vargs : Array Value} (hf : R ρ sf vf) (ha : RL ρ sargs vargs.toList) (h : (sCall Γ H sf sargs).pre)
    {K : Act → World → Prop} {Q : Exit → Act → World → Prop} (hK : ∀ ρ' x w', Env.le ρ ρ' → Sat g ρ' (sCall Γ H sf sargs).heap w' → R ρ' (sCall Γ H sf sargs).val x → K (a.put o.dst x) w') :
    o.upon P a K Q ((do let d ← Deferred.ofValue vf vargs; invoke d.target d.args : Sem Next).run P w) := by
  have go : ∀ (f : FuncId) (args : List SV) (va : List Value), RL ρ args va → (Γ (.func f) args H).pre →
      (∀ ρ' x w', Env.le ρ ρ' → Sat g ρ' (Γ (.func f) args H).heap w' → R ρ' (Γ (.func f) args H).val x → K (a.put o.dst x) w') → o.upon P a K Q ((callFunc f va.toArray).run P w) := by
    intro f args va hr hp hk
    obtain ⟨⟨fn, b1, b2, b3⟩, _, hc⟩ := hΓ (.func f) args H hp
    have hrun : (callFunc f va.toArray).run P w = .ok (.enter f va.toArray) w := by
      unfold callFunc
      simp only [Sem.run_bind, run_program, Result.andThen_ok, b1, b2, b3, Bool.false_eq_true, if_false, Sem.run_pure]
    rw [hrun]
    show Calls P f va.toArray w _
    refine (hc g ρ w va rfl hs hr).mono fun e w' ⟨ρ', x, he, h1, h2, h3⟩ => ?_
    subst he
    exact hk ρ' x w' h1 h2 h3
  unfold sCall at h hK
  split at h
  · rename_i f u v
    simp only [R] at hf
    subst hf
    obtain ⟨⟨rfl, rfl⟩, h⟩ := h
    have := go f sargs vargs.toList ha h hK
    simpa [Deferred.ofValue, invoke] using this
  · rename_i f first cap
    simp only [R] at hf
    obtain ⟨v1, v2, rfl, r1, r2⟩ := hf
    have := go f (first ++ sargs ++ cap) (v1.toList ++ vargs.toList ++ v2.toList) (RL.append (RL.append r1 ha) r2) h hK
    have e : (v1.toList ++ vargs.toList ++ v2.toList).toArray = v1 ++ vargs ++ v2 := by apply Array.ext'; simp
    rw [e] at this
    simpa [Deferred.ofValue, invoke] using this
  · exact h.elim

set_option maxHeartbeats 1000000 in
theorem sop_sound (hs : Sat g ρ H w) (hΓ : Con.Sound P g.E Γ) (hev : ∀ x ∈ opNeeds o.op, R ρ (unw ev x) (a.eval x)) (hpick : ∀ x, R ρ (ev x) (a.eval x)) (h : (sop P g.E Γ q H ev o.op).pre)
    {K : Act → World → Prop} {Q : Exit → Act → World → Prop} (hK : ∀ ρ' x w', Env.le ρ ρ' → Sat g ρ' (sop P g.E Γ q H ev o.op).heap w' → R ρ' (sop P g.E Γ q H ev o.op).val x → K (a.put o.dst x) w') :
    o.wp P a w K Q := by
  obtain ⟨dst, op, ty, pos, after, guard⟩ := o
  have quiet : ∀ (r : Res), r.heap = H → (∀ ρ' x w', Env.le ρ ρ' → Sat g ρ' r.heap w' → R ρ' r.val x → K (a.put dst x) w') → ∀ x, R ρ r.val x → K (a.put dst x) w := by
    intro r hr hk x hx
    exact hk ρ x w (Env.le_refl _) (hr ▸ hs) hx
  cases op <;> simp only [sop] at h hK <;> first | exact h.elim | skip
  case move x => exact wp_pure (x := a.eval x) rfl (quiet ⟨True, unw ev x, H⟩ rfl hK _ (hev x (by simp [opNeeds])))
  case assign x => exact wp_pure (x := a.eval x) rfl (quiet ⟨True, unw ev x, H⟩ rfl hK _ (hev x (by simp [opNeeds])))
  case pick c x y =>
    obtain ⟨h1, b, h2, h3⟩ := sPick_sound (hev c (by simp [opNeeds])) (hpick x) (hpick y) h
    have e : (execOp a.eval { dst, op := .pick c x y, type := ty, pos, after, guard }).run P w = .ok (.value (if b then a.eval x else a.eval y)) w := by
      simp [execOp, h2, asBool]
    unfold Oper.wp
    rw [e]
    exact quiet _ h1 hK _ h3
  case alloc t =>
    obtain ⟨ρ', x, w', h1, h2, h3, h4⟩ := sAlloc_sound hs h
    exact wp_value rfl h1 (hK ρ' x w' h2 h3 h4)
  case box t x =>
    obtain ⟨ρ', v, w', h1, h2, h3, h4⟩ := sBox_sound hs (hev x (by simp [opNeeds])) h
    exact wp_value rfl h1 (hK ρ' v w' h2 h3 h4)
  case build t ps =>
    obtain ⟨h1, v, h2, h3⟩ := sBuild_sound (qs := ps.map fun x => (x.1, a.eval x.2)) (by simp [Function.comp_def]) (by
      simp only [List.map_map, Array.toList_map]
      exact RL.mapR _ _ _ (fun x hx => hev x.2 (by simp [opNeeds]; exact ⟨_, by simpa using hx⟩))) h
    exact wp_value rfl (h2 w) (quiet _ h1 hK _ h3)
  case buildSlice t len ps =>
    obtain ⟨ρ', v, w', h1, h2, h3, h4⟩ := sLit_sound hs (qs := ps.map fun x => (x.1, a.eval x.2)) (by simp [Function.comp_def]) (by
      simp only [List.map_map, Array.toList_map]
      exact RL.mapR _ _ _ (fun x hx => hev x.2 (by simp [opNeeds]; exact ⟨_, by simpa using hx⟩))) h
    exact wp_value rfl h1 (hK ρ' v w' h2 h3 h4)
  case load t x =>
    obtain ⟨h1, v, h2, h3⟩ := sLoad_sound hs (hev x (by simp [opNeeds])) h
    exact wp_value rfl (h2 w rfl) (quiet _ h1 hK _ h3)
  case store t x y =>
    obtain ⟨w', h1, h2⟩ := sStore_sound hs (hev x (by simp [opNeeds])) (hev y (by simp [opNeeds])) h
    refine wp_unit rfl h1 (hK ρ undef w' (Env.le_refl _) h2 ?_)
    unfold sStore at h ⊢
    repeat' split
    all_goals simp_all [no, R]
  case nilCheck x =>
    have hx := hev x (by simp [opNeeds])
    unfold sNil at h hK
    split at h
    · rename_i i q e
      rw [e] at hx hK
      have hx' := hx
      simp only [R] at hx'
      obtain ⟨b, c, _, hv⟩ := hx'
      refine wp_pure (x := a.eval x) ?_ (quiet _ rfl hK _ hx)
      simp [execOp, hv]
    · rename_i i sz k j e
      rw [e] at hx hK
      have hx' := hx
      simp only [R] at hx'
      obtain ⟨b, c, _, hv⟩ := hx'
      refine wp_pure (x := a.eval x) ?_ (quiet _ rfl hK _ hx)
      simp [execOp, hv]
    · rename_i f u v e
      rw [e] at hx hK
      have hx' := hx
      simp only [R] at hx'
      obtain ⟨b, c, hv, _, _⟩ := hx'
      split at h <;> first | exact h.elim | skip
      all_goals
        refine wp_pure (x := a.eval x) ?_ (quiet _ rfl hK _ hx)
        simp [execOp, hv]
    · rename_i ad e
      rw [e] at hx hK
      have hx' := hx
      simp only [R] at hx'
      refine wp_pure (x := a.eval x) ?_ (quiet _ rfl hK _ hx)
      simp [execOp, hx']
    · exact h.elim
  case binOp op t x y ty' =>
    obtain ⟨h1, v, h2, h3, h4⟩ := sBin_sound x y (hev x (by simp [opNeeds])) (hev y (by simp [opNeeds])) h w
    refine wp_value (s := do eqGuard op t x y (a.eval x) (a.eval y); binOp op t (a.eval x) (a.eval y)) rfl ?_ (quiet _ h1 hK _ h4)
    simp [h2, h3]
  case unOp op t x =>
    obtain ⟨h1, v, h2, h3⟩ := sUn_sound (P := P) (hev x (by simp [opNeeds])) h w
    exact wp_value rfl h2 (quiet _ h1 hK _ h3)
  case convert s d x =>
    obtain ⟨h1, v, h2, h3⟩ := sConv_sound (hev x (by simp [opNeeds])) h w
    exact wp_value rfl h2 (quiet _ h1 hK _ h3)
  case makeFunc f first cap =>
    refine wp_value (x := .func f (first.map a.eval) (cap.map a.eval)) (s := Instr.makeFunc f (first.map a.eval) (cap.map a.eval)) rfl rfl (quiet ⟨True, .fn f (first.toList.map (unw ev)) (cap.toList.map (unw ev)), H⟩ rfl hK _ ?_)
    simp only [R]
    refine ⟨_, _, rfl, ?_, ?_⟩
    · rw [Array.toList_map]; exact RL.mapR _ _ _ (fun x hx => hev x (by simp [opNeeds]; left; simpa using hx))
    · rw [Array.toList_map]; exact RL.mapR _ _ _ (fun x hx => hev x (by simp [opNeeds]; right; simpa using hx))
  case makeMap t r =>
    cases r with
    | some _ => exact h.elim
    | none =>
      obtain ⟨ρ', h2, h3, h4⟩ := sMap_sat hs h
      exact wp_value (s := Instr.makeMap t none) rfl (by simp [Instr.makeMap]) (hK ρ' _ _ h2 h3 h4)
  case makeSlice t l c =>
    obtain ⟨ρ', v, w', h1, h2, h3, h4⟩ := sMake_sound hs (hev l (by simp [opNeeds])) (hev c (by simp [opNeeds])) h
    exact wp_value rfl h1 (hK ρ' v w' h2 h3 h4)
  case slice t x lo hi mx =>
    cases lo <;> cases hi <;> cases mx <;> simp only at h hK <;> first | exact h.elim | skip
    rename_i lo
    obtain ⟨h1, v, h2, h3⟩ := sSlice_sound (P := P) (hev x (by simp [opNeeds])) (hev lo (by simp [opNeeds])) h
    exact wp_value rfl (h2 w) (quiet _ h1 hK _ h3)
  case fieldAddr t x f =>
    obtain ⟨h1, v, h2, h3⟩ := sField_sound (hev x (by simp [opNeeds])) h
    exact wp_value rfl (h2 w) (quiet _ h1 hK _ h3)
  case field t x f =>
    obtain ⟨h1, v, h2, h3⟩ := sPart_sound (hev x (by simp [opNeeds])) h
    exact wp_value rfl (h2 w) (quiet _ h1 hK _ h3)
  case indexAddr t x i =>
    obtain ⟨h1, v, h2, h3⟩ := sIndex_sound (hev x (by simp [opNeeds])) (hev i (by simp [opNeeds])) h
    exact wp_value rfl (h2 w) (quiet _ h1 hK _ h3)
  case index t x i =>
    have hx := hev x (by simp [opNeeds])
    have hi := hev i (by simp [opNeeds])
    unfold sAt at h hK
    split at h
    · rename_i len e cs k n he e1 e2
      obtain ⟨h1, h2, h3, h4, h5, h6⟩ := h
      rw [e1] at hx
      rw [e2] at hi
      simp only [R] at hx hi
      obtain ⟨ar, hv, hx⟩ := hx
      have hl := hx.length
      have hlt : n.toNat < ar.size := by simp at hl; omega
      refine wp_value (s := Instr.index t (a.eval x) (a.eval i)) (x := ar[n.toNat]) rfl ?_ (quiet _ ?_ hK _ ?_)
      · simp [Instr.index, hv, hi, asIntOf, run_underlying (tarr_some he), h4, h5, part, run_isAgg' h1, h2, run_sizeOf' h1, h3, hlt]
      · simp only [he, e1, e2]
      · simp only [he, e1, e2]
        have hd := RL.take 1 (RL.drop n.toNat hx)
        have e : (ar.toList.drop n.toNat).take 1 = [ar[n.toNat]] := by
          rw [List.drop_eq_getElem_cons (by simpa using hlt)]
          simp
        rw [e] at hd
        generalize (cs.drop n.toNat).take 1 = l at hd ⊢
        match l, hd with
        | [y], hd => simp only [RL] at hd; exact hd.1
        | [], hd => simp only [RL] at hd
        | _ :: _ :: _, hd => simp only [RL] at hd; exact hd.2.elim
    · exact h.elim
  case lookup t m k ok =>
    cases ok with
    | false => exact h.elim
    | true =>
      obtain ⟨h1, v, h2, h3⟩ := sLookup_sound hs (hev m (by simp [opNeeds])) (hev k (by simp [opNeeds])) h
      exact wp_value rfl (h2 w rfl) (quiet _ h1 hK _ h3)
  case insert t m k x =>
    obtain ⟨w', h1, h2⟩ := sInsert_sound hs (hev m (by simp [opNeeds])) (hev k (by simp [opNeeds])) (hev x (by simp [opNeeds])) h
    refine wp_unit rfl h1 (hK ρ undef w' (Env.le_refl _) h2 ?_)
    unfold sInsert at h ⊢
    repeat' split
    all_goals simp_all [no, R]
  case extract t i =>
    have ht := hev t (by simp [opNeeds])
    unfold sExtract at h hK
    split at h
    · rename_i vs e
      rw [e] at ht hK
      simp only [R] at ht
      obtain ⟨ar, hv, ht⟩ := ht
      split at h
      · rename_i s hs'
        simp only [hs'] at hK
        obtain ⟨x, hx, hr⟩ := ht.get _ _ hs'
        refine wp_value (s := Instr.extract (a.eval t) i) (x := x) rfl ?_ (quiet ⟨True, s, H⟩ rfl hK _ hr)
        simp only [Instr.extract, hv]
        have : ar[i]? = some x := by simpa using hx
        simp [this]
      · exact h.elim
    · exact h.elim
  case call c =>
    obtain ⟨callee, args, argTypes⟩ := c
    cases callee with
    | value f =>
      have hargs : RL ρ (args.toList.map (unw ev)) (args.map a.eval).toList := by
        rw [Array.toList_map]
        exact RL.mapR _ _ _ (fun x hx => hev x (by simp [opNeeds]; right; simpa using hx))
      have := call_sound (a := a) (o := { dst, op := .call { callee := .value f, args, argTypes }, type := ty, pos, after, guard }) (K := K) (Q := Q) hs hΓ (hev f (by simp [opNeeds])) hargs h hK
      unfold Oper.wp
      have e : execOp a.eval { dst, op := .call { callee := .value f, args, argTypes }, type := ty, pos, after, guard } = (do let d ← Deferred.ofValue (a.eval f) (args.map a.eval); invoke d.target d.args : Sem Next) := rfl
      rw [e]
      exact this
    | invoke r m => exact h.elim
    | builtin b =>
      simp only at h hK
      have hargs : RL ρ (args.toList.map (unw ev)) (args.map a.eval).toList := by
        rw [Array.toList_map]
        exact RL.mapR _ _ _ (fun x hx => hev x (by simp [opNeeds]; simpa using hx))
      have run : ∀ {s : Sem Value} {x : Value} {w' : World}, builtin b argTypes ty (args.map fun | .const _ => true | _ => false) (args.map a.eval) = (do pure (.value (← s)) : Sem Next) → s.run P w = .ok x w' → K (a.put dst x) w' →
          Oper.wp P { dst, op := .call { callee := .builtin b, args, argTypes }, type := ty, pos, after, guard } a w K Q := by
        intro s x w' h1 h2 h3
        refine wp_value (s := s) ?_ h2 h3
        rw [← h1]
        rfl
      unfold sBuiltin at h hK
      split at h
      · rename_i t x e1 e2
        rw [e1, e2] at hK
        rw [e2] at hargs
        have et : argTypes = #[t] := by apply Array.ext'; simpa using e1
        match hva : (args.map a.eval).toList, hargs with
        | [v], hargs =>
          simp only [RL] at hargs
          have ev : args.map a.eval = #[v] := by apply Array.ext'; simpa using hva
          obtain ⟨h1, y, h2, h3⟩ := sLen_sound (P := P) (ty := ty) hargs.1 h
          refine run rfl ?_ (quiet _ h1 hK _ h3)
          rw [et, ev]
          exact h2 w
        | [], hargs => simp only [RL] at hargs
        | _ :: _ :: _, hargs => simp only [RL] at hargs; exact hargs.2.elim
      · rename_i t t' x y e1 e2
        rw [e1, e2] at hK
        rw [e2] at hargs
        split at h
        · rename_i htt
          have htt' : t = t' := by simpa using htt
          subst htt'
          simp only [decide_true] at hK
          have et : argTypes = #[t, t] := by apply Array.ext'; simpa using e1
          match hva : (args.map a.eval).toList, hargs with
          | [v, u], hargs =>
            simp only [RL] at hargs
            have ev : args.map a.eval = #[v, u] := by apply Array.ext'; simpa using hva
            obtain ⟨ρ', z, w', h1, h2, h3, h4⟩ := sApp_sound (ty := ty) hs hargs.1 hargs.2.1 h
            refine run rfl ?_ (hK ρ' z w' h2 h3 h4)
            rw [et, ev]
            exact h1
          | [], hargs => simp only [RL] at hargs
          | [_], hargs => simp only [RL] at hargs; exact hargs.2.elim
          | _ :: _ :: _ :: _, hargs => simp only [RL] at hargs; exact hargs.2.2.elim
        · exact h.elim
      · rename_i xs _ _
        unfold sMax at h hK
        split at h
        · rename_i k x k' y e2
          rw [e2] at hK hargs
          match hva : (args.map a.eval).toList, hargs with
          | [v, u], hargs =>
            simp only [RL, R] at hargs
            obtain ⟨rfl, rfl, _⟩ := hargs
            have ev : args.map a.eval = #[.int k x, .int k' y] := by apply Array.ext'; simpa using hva
            refine run rfl ?_ (quiet _ rfl hK (.int k (max x y)) (by simp only [R]))
            rw [ev]
            exact run_max2' _ _ k k' x y w
          | [], hargs => simp only [RL] at hargs
          | [_], hargs => simp only [RL] at hargs; exact hargs.2.elim
          | _ :: _ :: _ :: _, hargs => simp only [RL] at hargs; exact hargs.2.2.elim
        · exact h.elim
      · rename_i xs _ _
        unfold sMin at h hK
        split at h
        · rename_i k x k' y e2
          rw [e2] at hK hargs
          match hva : (args.map a.eval).toList, hargs with
          | [v, u], hargs =>
            simp only [RL, R] at hargs
            obtain ⟨rfl, rfl, _⟩ := hargs
            have ev : args.map a.eval = #[.int k x, .int k' y] := by apply Array.ext'; simpa using hva
            refine run rfl ?_ (quiet _ rfl hK (.int k (min x y)) (by simp only [R]))
            rw [ev]
            exact run_min2' _ _ k k' x y w
          | [], hargs => simp only [RL] at hargs
          | [_], hargs => simp only [RL] at hargs; exact hargs.2.elim
          | _ :: _ :: _ :: _, hargs => simp only [RL] at hargs; exact hargs.2.2.elim
        · exact h.elim
      · exact h.elim
end

end Go.Proofs.Ytmnpnnegnlhemaa.Eng
namespace Go.Proofs.Ytmnpnnegnlhemaa.Eng
open Go

/-! ### Slots -/
def tg : List SV → Nat → SV
  | [], _ => .raw undef
  | s :: _, 0 => s
  | _ :: l, n + 1 => tg l n

def tset : List SV → Nat → SV → List SV
  | [], _, _ => []
  | _ :: l, 0, v => v :: l
  | s :: l, n + 1, v => s :: tset l n v

def tput (τ : List SV) : Option Tmp → SV → List SV
  | none, _ => τ
  | some d, v => tset τ d v

def sev (τ : List SV) : Operand → SV
  | .tmp t => tg τ t
  | .const v => .raw v
  | .global g => .raw (.pointer (some ⟨g, 0, none⟩))
  | .func f => .raw (.func (.func f) #[] #[])

theorem tset_eq : ∀ (l : List SV) (n : Nat) (v : SV), tset l n v = l.set n v
  | [], _, _ => by simp [tset]
  | _ :: l, 0, v => by simp [tset]
  | s :: l, n + 1, v => by simp [tset, tset_eq l n v]

theorem tg_eq : ∀ (l : List SV) (n : Nat), tg l n = (l[n]?).getD (.raw undef)
  | [], _ => by simp [tg]
  | s :: _, 0 => by simp [tg]
  | _ :: l, n + 1 => by simp [tg, tg_eq l n]

theorem R_tg {ρ : Env} {τ : List SV} {ts : Array Value} (h : RL ρ τ ts.toList) (t : Nat) : R ρ (tg τ t) (ts.getD t undef) := by
  rw [tg_eq]
  cases hv : τ[t]? with
  | some s =>
    obtain ⟨x, hx, hr⟩ := h.get t s hv
    have : ts[t]? = some x := by simpa using hx
    simp only [Option.getD_some]
    rw [Array.getD_eq_getD_getElem?, this]
    exact hr
  | none =>
    have hl := h.length
    have : ts[t]? = none := by
      rw [List.getElem?_eq_none_iff] at hv
      rw [Array.getElem?_eq_none_iff]
      simp at hl; omega
    simp only [Option.getD_none]
    rw [Array.getD_eq_getD_getElem?, this]
    simp [R]

theorem R_sev {ρ : Env} {τ : List SV} {a : Act} (h : RL ρ τ a.tmps.toList) (x : Operand) : R ρ (sev τ x) (a.eval x) := by
  cases x with
  | tmp t => exact R_tg h t
  | const v => simp [sev, R, Act.eval]
  | global g => simp [sev, R, Act.eval]
  | func f => simp [sev, R, Act.eval]

theorem RL_put {ρ : Env} {τ : List SV} {a : Act} (h : RL ρ τ a.tmps.toList) (d : Option Tmp) (s : SV) (v : Value) (hr : R ρ s v) : RL ρ (tput τ d s) (a.put d v).tmps.toList := by
  cases d with
  | none => exact h
  | some d =>
    simp only [tput, tset_eq, Act.put, Array.toList_setIfInBounds]
    exact h.set d s v hr

theorem put_defers (a : Act) (d : Option Tmp) (v : Value) : (a.put d v).defers = a.defers := by cases d <;> rfl

/-! ### Guards -/
def onth : List Oper → Nat → Option Oper
  | [], _ => none
  | o :: _, 0 => some o
  | _ :: l, n + 1 => onth l n

theorem onth_eq : ∀ (l : List Oper) (n : Nat), onth l n = l[n]?
  | [], _ => by simp [onth]
  | s :: _, 0 => by simp [onth]
  | _ :: l, n + 1 => by simp [onth, onth_eq l n]

def wants (want b : Bool) : Bool := match want with
  | true => b
  | false => !b

def gb (want : Bool) : SV → Prop × Bool
  | .raw (.bool b) => (True, wants want b)
  | .opt g (.raw (.bool b)) => (True, g && wants want b)
  | _ => (False, false)

def gdst : Option Oper → Option Tmp
  | some o => o.dst
  | none => none

def gslot (τ : List SV) : Option Tmp → SV
  | some d => tg τ d
  | none => .junk

theorem gb_sound {ρ : Env} {τ : List SV} {a : Act} {ops : List Oper} (h : RL ρ τ a.tmps.toList) {o : Oper} {j : Nat} {want : Bool} (hg : o.guard = some (j, want)) (hp : (gb want (gslot τ (gdst (onth ops j)))).1) :
    Region.wanted o (yielded ops.toArray a.tmps) = (gb want (gslot τ (gdst (onth ops j)))).2 := by
  rw [onth_eq] at hp ⊢
  simp only [Region.wanted, hg, yielded, List.getElem?_toArray]
  cases ho : ops[j]? with
  | none => rw [ho] at hp; exact hp.elim
  | some oj =>
    rw [ho] at hp
    simp only [gdst, Option.bind_some] at hp ⊢
    cases hd : oj.dst with
    | none => rw [hd] at hp; exact hp.elim
    | some d =>
      rw [hd] at hp
      simp only [gslot, Option.bind_some] at hp ⊢
      rw [tg_eq] at hp ⊢
      cases hv : τ[d]? with
      | none => rw [hv] at hp; exact hp.elim
      | some s =>
        rw [hv] at hp
        obtain ⟨x, hx, hr⟩ := h.get d s hv
        have hx' : a.tmps[d]? = some x := by simpa using hx
        rw [hx']
        simp only [Option.getD_some] at hp ⊢
        unfold gb at hp ⊢
        split at hp
        · simp only [R] at hr
          subst hr
          rename_i b
          cases want <;> cases b <;> rfl
        · rename_i g b
          simp only [R] at hr
          cases g with
          | true => have := hr.1 rfl; subst this; cases want <;> cases b <;> rfl
          | false => have := hr.2 rfl; subst this; cases want <;> rfl
        · exact hp.elim

/-! ### One operation in its frame -/
structure St where
  pre : Prop
  tm : List SV
  hp : List AB

def r0 (n : Prop) : Res → Res
  | ⟨p, v, h⟩ => ⟨n ∧ p, v, h⟩

def r2 (n : Prop) (g : Bool) (H : List AB) : Res → Res
  | ⟨p, v, h⟩ => ⟨n ∧ (g = true → p), .opt g v, if g = true then h else H⟩

section
variable (P : Program) (E : Addr → Option Value) (Γ : Con)

def r1 (q : Option Nat) (o : Oper) (τ : List SV) (H : List AB) : Prop × Bool → Res
  | (p, g) => r2 (p ∧ needs (sev τ) g (opNeeds o.op)) g H (sop P E Γ q H (sev τ) o.op)

def stepR (ops : List Oper) (q : Option Nat) (o : Oper) (τ : List SV) (H : List AB) : Res :=
  match o.guard with
  | none => r0 (needs (sev τ) true (opNeeds o.op)) (sop P E Γ q H (sev τ) o.op)
  | some (j, want) => r1 P E Γ q o τ H (gb want (gslot τ (gdst (onth ops j))))

def contA (k : Prop → List SV → List AB → St) (acc : Prop) (d : Option Tmp) (τ : List SV) : Res → St
  | ⟨p, v, h⟩ => k (acc ∧ p) (tput τ d v) h

/-- A region in the text's order. -/
def srunA (ops : List Oper) : List Oper → Prop → List SV → List AB → St
  | [], acc, τ, H => ⟨acc, τ, H⟩
  | o :: r, acc, τ, H => contA (srunA ops r) acc o.dst τ (stepR P E Γ ops none o τ H)

theorem srunA_acc (ops : List Oper) : ∀ (r : List Oper) (acc : Prop) (τ : List SV) (H : List AB), (srunA P E Γ ops r acc τ H).pre → acc
  | [], _, _, _, h => h
  | o :: r, acc, τ, H, h => by
    simp only [srunA] at h
    generalize stepR P E Γ ops none o τ H = s at h
    obtain ⟨p, v, H'⟩ := s
    exact (srunA_acc ops r _ _ _ h).1
end

theorem wp_op_step {P : Program} {g : G} {ρ : Env} {H : List AB} {w : World} {Γ : Con} {ops : List Oper} {q : Option Nat} {τ : List SV} {a : Act} {o : Oper}
    (hs : Sat g ρ H w) (hΓ : Con.Sound P g.E Γ) (ht : RL ρ τ a.tmps.toList) (h : (stepR P g.E Γ ops q o τ H).pre)
    {K : Act → World → Prop} {Q : Exit → Act → World → Prop}
    (hK : ∀ ρ' a' w' x, Env.le ρ ρ' → Sat g ρ' (stepR P g.E Γ ops q o τ H).heap w' → R ρ' (stepR P g.E Γ ops q o τ H).val x → a' = a.put o.dst x → K a' w') :
    if Region.wanted o (yielded ops.toArray a.tmps) then o.wp P a w K Q ∨ (o.asks P a w ∧ LetsOut Q) else K (a.put o.dst undef) w := by
  unfold stepR at h hK
  cases hg : o.guard with
  | none =>
    rw [hg] at h hK
    simp only [Region.wanted, hg, if_true]
    left
    have hn := h.1
    exact sop_sound (ev := sev τ) hs hΓ (fun x hx => needs_spec rfl hn x hx (R_sev ht x)) (fun x => R_sev ht x) h.2 (fun ρ' x w' h1 h2 h3 => hK ρ' _ w' x h1 h2 h3 rfl)
  | some jw =>
    obtain ⟨j, want⟩ := jw
    rw [hg] at h hK
    simp only [r1, r2] at h hK
    have hwant := gb_sound (ops := ops) ht hg h.1.1
    rw [hwant]
    cases hb : (gb want (gslot τ (gdst (onth ops j)))).2 with
    | true =>
      rw [hb] at h hK
      simp only [if_true] at hK ⊢
      left
      exact sop_sound (ev := sev τ) hs hΓ (fun x hx => needs_spec rfl h.1.2 x hx (R_sev ht x)) (fun x => R_sev ht x) (h.2 rfl) (fun ρ' x w' h1 h2 h3 =>
        hK ρ' _ w' x h1 h2 (by simp only [R]; exact ⟨fun _ => h3, fun e => by cases e⟩) rfl)
    | false =>
      rw [hb] at h hK
      simp only [Bool.false_eq_true, if_false] at hK ⊢
      exact hK ρ _ w undef (Env.le_refl _) hs (by simp [R]) rfl

theorem srunA_sound {P : Program} {g : G} {Γ : Con} {ops : List Oper} (hΓ : Con.Sound P g.E Γ) {Q : Exit → Act → World → Prop} : ∀ (r : List Oper) (acc : Prop) (ρ : Env) (τ : List SV) (H : List AB) (a : Act) (w : World),
    Sat g ρ H w → RL ρ τ a.tmps.toList → (srunA P g.E Γ ops r acc τ H).pre →
    (∀ ρ' a' w', Env.le ρ ρ' → Sat g ρ' (srunA P g.E Γ ops r acc τ H).hp w' → RL ρ' (srunA P g.E Γ ops r acc τ H).tm a'.tmps.toList → a'.defers = a.defers → Q .normal a' w') →
    wpList P ops.toArray Q r a w
  | [], acc, ρ, τ, H, a, w, hs, ht, _, hK => hK ρ a w (Env.le_refl _) hs ht rfl
  | o :: r, acc, ρ, τ, H, a, w, hs, ht, h, hK => by
    simp only [srunA] at h hK
    have hpre : (stepR P g.E Γ ops none o τ H).pre := by
      generalize stepR P g.E Γ ops none o τ H = s at h
      obtain ⟨p, v, H'⟩ := s
      exact (srunA_acc P g.E Γ ops r _ _ _ h).2
    exact wp_op_step (K := wpList P ops.toArray Q r) (Q := Q) hs hΓ ht hpre (fun ρ' a' w' x h1 h2 h3 h4 => by
      subst h4
      generalize stepR P g.E Γ ops none o τ H = s at h hK h2 h3
      obtain ⟨p, v, H'⟩ := s
      exact srunA_sound hΓ r _ ρ' _ H' _ w' h2 (RL_put (RL.mono h1 _ _ ht) _ _ _ h3) h (fun ρ'' a'' w'' k1 k2 k3 k4 => hK ρ'' a'' w'' (Env.le_trans h1 k1) k2 k3 (k4.trans (put_defers _ _ _))))

/-! ### What goes on from a loop's head, or out of a function: the heap is cut to its first blocks -/
mutual
def sc (n : Nat) : SV → Bool
  | .junk => true
  | .raw _ => true
  | .opt _ v => sc n v
  | .ptr i _ => decide (i < n)
  | .pel i _ _ _ => decide (i < n)
  | .lst i _ _ _ => decide (i < n)
  | .mapv i => decide (i < n)
  | .fn _ a b => scs n a && scs n b
  | .agg l => scs n l
  | .tup l => scs n l
def scs (n : Nat) : List SV → Bool
  | [] => true
  | v :: l => sc n v && scs n l
end

def Env.cut (ρ : Env) (n : Nat) : Env := fun i => if i < n then ρ i else none

theorem Env.cut_lt {ρ : Env} {n i : Nat} (h : i < n) : (ρ.cut n) i = ρ i := by simp [Env.cut, h]

mutual
theorem R.cut {ρ : Env} {n : Nat} : ∀ (s : SV) (x : Value), sc n s = true → R ρ s x → R (ρ.cut n) s x
  | .junk, _, _, _ => by simp only [R]
  | .raw v, x, _, e => by simpa only [R] using e
  | .opt g v, x, h, e => by
    simp only [R, sc] at e h ⊢
    exact ⟨fun hg => R.cut v x h (e.1 hg), e.2⟩
  | .ptr i o, x, h, e => by
    simp only [R, sc, decide_eq_true_eq] at e h ⊢
    rw [Env.cut_lt h]; exact e
  | .pel i sz k j, x, h, e => by
    simp only [R, sc, decide_eq_true_eq] at e h ⊢
    rw [Env.cut_lt h]; exact e
  | .lst i sz off len, x, h, e => by
    simp only [R, sc, decide_eq_true_eq] at e h ⊢
    rw [Env.cut_lt h]; exact e
  | .mapv i, x, h, e => by
    simp only [R, sc, decide_eq_true_eq] at e h ⊢
    rw [Env.cut_lt h]; exact e
  | .fn f fi ca, x, h, e => by
    simp only [R, sc, Bool.and_eq_true] at e h ⊢
    obtain ⟨a, b, h1, h2, h3⟩ := e
    exact ⟨a, b, h1, RL.cut fi _ h.1 h2, RL.cut ca _ h.2 h3⟩
  | .agg cs, x, h, e => by
    simp only [R, sc] at e h ⊢
    obtain ⟨a, h1, h2⟩ := e
    exact ⟨a, h1, RL.cut cs _ h h2⟩
  | .tup cs, x, h, e => by
    simp only [R, sc] at e h ⊢
    obtain ⟨a, h1, h2⟩ := e
    exact ⟨a, h1, RL.cut cs _ h h2⟩
theorem RL.cut {ρ : Env} {n : Nat} : ∀ (l : List SV) (r : List Value), scs n l = true → RL ρ l r → RL (ρ.cut n) l r
  | [], [], _, _ => by simp only [RL]
  | s :: l, v :: r, h, e => by
    simp only [RL, scs, Bool.and_eq_true] at e h ⊢
    exact ⟨R.cut s v h.1 e.1, RL.cut l r h.2 e.2⟩
  | [], _ :: _, _, e => by simp only [RL] at e
  | _ :: _, [], _, e => by simp only [RL] at e
end

def scEnts (n : Nat) : List (Value × SV) → Bool
  | [] => true
  | (_, v) :: l => sc n v && scEnts n l

/-- One value's word gives another one's: a nil slice is a list of none. -/
def vwk1 : SV → SV → Prop
  | .lst _ _ _ len, .raw v => len = 0 ∧ v = .slice none 0 0
  | s, v => s = v
def vwks : List SV → List SV → Prop
  | [], [] => True
  | s :: l, v :: r => vwk1 s v ∧ vwks l r
  | _, _ => False
def vwk : SV → SV → Prop
  | .agg l, .agg r => vwks l r
  | .tup l, .tup r => vwks l r
  | s, v => vwk1 s v

theorem R.vwk1 {ρ : Env} {s v : SV} {x : Value} (h : Eng.vwk1 s v) (hr : R ρ v x) : R ρ s x := by
  unfold Eng.vwk1 at h
  split at h
  · obtain ⟨rfl, rfl⟩ := h
    simp only [R] at hr
    subst hr
    simp [R]
  · subst h; exact hr

theorem RL.vwks {ρ : Env} : ∀ {l r : List SV} {vs : List Value}, Eng.vwks l r → RL ρ r vs → RL ρ l vs
  | [], [], _, _, h => h
  | s :: l, v :: r, [], _, h => by simp only [RL] at h
  | s :: l, v :: r, x :: vs, hw, h => by
    simp only [RL, Eng.vwks] at h hw ⊢
    exact ⟨R.vwk1 hw.1 h.1, RL.vwks hw.2 h.2⟩
  | [], _ :: _, _, hw, _ => by simp [Eng.vwks] at hw
  | _ :: _, [], _, hw, _ => by simp [Eng.vwks] at hw

theorem R.vwk {ρ : Env} {s v : SV} {x : Value} (h : Eng.vwk s v) (hr : R ρ v x) : R ρ s x := by
  unfold Eng.vwk at h
  split at h
  · simp only [R] at hr ⊢
    obtain ⟨a, h1, h2⟩ := hr
    exact ⟨a, h1, RL.vwks h h2⟩
  · simp only [R] at hr ⊢
    obtain ⟨a, h1, h2⟩ := hr
    exact ⟨a, h1, RL.vwks h h2⟩
  · exact R.vwk1 h hr

/-- One block's word gives another one's. -/
def bwk (n : Nat) : AB → AB → Prop
  | .dead, _ => True
  | .cells cs t, .cells cs' t' => vwks cs cs' ∧ t = t' ∧ scs n cs = true
  | .lst m sz f t, .lst m' sz' f' t' => m ≤ m' ∧ sz = sz' ∧ t = t' ∧ (∀ k, k < m → f k = f' k) ∧ ∀ k, k < m → scs n (f k) = true
  | .map es, .map es' => es = es' ∧ scEnts n es = true
  | .lrec b τ l, .lrec b' τ' l' => (b = b' ∧ τ = τ' ∧ l = l') ∧ scs n τ = true
  | .lst m _ _ _, .hole => m = 0
  | _, _ => False

def hwk (n : Nat) : List AB → List AB → Prop
  | [], _ => True
  | a :: l, b :: r => bwk n a b ∧ hwk n l r
  | _ :: _, [] => False

theorem hwk_get {n : Nat} : ∀ {H' H : List AB}, hwk n H' H → H'.length ≤ H.length ∧ ∀ (i : Nat) (ab' : AB), H'[i]? = some ab' → ∃ ab, H[i]? = some ab ∧ bwk n ab' ab
  | [], _, _ => ⟨by simp, fun i ab' h => by simp at h⟩
  | a :: l, [], h => by simp [hwk] at h
  | a :: l, b :: r, h => by
    simp only [hwk] at h
    obtain ⟨h1, h2⟩ := hwk_get h.2
    refine ⟨by simp; omega, fun i ab' hi => ?_⟩
    cases i with
    | zero => simp at hi; subst hi; exact ⟨b, by simp, h.1⟩
    | succ i => simpa using h2 i ab' (by simpa using hi)

theorem REnts.cut {ρ : Env} {n : Nat} : ∀ (q : Nat) (l : List (Value × SV)) (r : List MapEntry), scEnts n l = true → REnts ρ q l r → REnts (ρ.cut n) q l r
  | _, [], [], _, _ => by simp only [REnts]
  | q, (k, s) :: l, e :: r, h, hh => by
    simp only [REnts, scEnts, Bool.and_eq_true] at hh h ⊢
    exact ⟨hh.1, R.cut s _ h.1 hh.2.1, hh.2.2.1, REnts.cut _ _ _ h.2 hh.2.2.2⟩
  | _, [], _ :: _, _, hh => by simp only [REnts] at hh
  | _, _ :: _, [], _, hh => by simp only [REnts] at hh

theorem scs_mem {n : Nat} : ∀ {l : List SV} {s : SV}, scs n l = true → s ∈ l → sc n s = true
  | [], _, _, h => by simp at h
  | v :: l, s, h, hm => by
    simp only [scs, Bool.and_eq_true] at h
    rcases List.mem_cons.1 hm with rfl | hm
    · exact h.1
    · exact scs_mem h.2 hm

theorem bwk_sat {ρ : Env} {n i : Nat} {w : World} {a b : AB} (hi : i < n) (h : bwk n a b) (hs : BSat ρ i w b) : BSat (ρ.cut n) i w a ∧ (a = .dead ∨ a.live = b.live ∨ ρ i = none) := by
  have hc := Env.cut_lt (ρ := ρ) hi
  unfold bwk at h
  split at h
  · exact ⟨trivial, .inl rfl⟩
  · obtain ⟨h0, rfl, h3⟩ := h
    obtain ⟨b, c, ar, h1, h2, h4⟩ := hs
    exact ⟨⟨b, c, ar, hc ▸ h1, h2, RL.cut _ _ h3 (RL.vwks h0 h4)⟩, .inr (.inl rfl)⟩
  · obtain ⟨hm, rfl, rfl, h4, h5⟩ := h
    refine ⟨?_, .inr (.inl rfl)⟩
    rcases hs with ⟨h1, h2⟩ | ⟨b, c, ar, h1, h2, h3, h6, h7⟩
    · exact .inl ⟨by omega, hc ▸ h2⟩
    · refine .inr ⟨b, c, ar, hc ▸ h1, h2, by omega, h6, fun k j s hk hj hf => ?_⟩
      have hsc := scs_mem (h5 k hk) (List.mem_of_getElem? hf)
      rw [h4 k hk] at hf
      obtain ⟨x, hx, hr⟩ := h7 k j s (by omega) hj hf
      exact ⟨x, hx, R.cut _ _ hsc hr⟩
  · obtain ⟨rfl, h2⟩ := h
    obtain ⟨b, c, l, h1, h3, h4⟩ := hs
    exact ⟨⟨b, c, l, hc ▸ h1, h3, REnts.cut _ _ _ h2 h4⟩, .inr (.inl rfl)⟩
  · obtain ⟨⟨rfl, rfl, rfl⟩, h2⟩ := h
    obtain ⟨c, t, h1, h3, h4⟩ := hs
    exact ⟨⟨c, t, hc ▸ h1, h3, RL.cut _ _ h2 h4⟩, .inr (.inl rfl)⟩
  · subst h
    have hs' : ρ i = none := hs
    exact ⟨.inl ⟨rfl, hc ▸ hs'⟩, .inr (.inr hs')⟩
  · exact h.elim

/-- The heap is cut, and some of what is known forgotten. -/
theorem Sat.narrow {g : G} {ρ : Env} {H H' : List AB} {w : World} (h : Sat g ρ H w) (hk : hwk H'.length H' H) : Sat g (ρ.cut H'.length) H' w := by
  obtain ⟨hlen, hget⟩ := hwk_get hk
  have lt : ∀ (i : Nat) (ab' : AB), H'[i]? = some ab' → i < H'.length := by
    intro i ab' hi
    rcases Nat.lt_or_ge i H'.length with q | q
    · exact q
    · rw [List.getElem?_eq_none q] at hi; cases hi
  have back : ∀ (i : Nat) (ab' : AB) b c, H'[i]? = some ab' → ab'.live = true → (ρ.cut H'.length) i = some (b, c) → ∃ ab, H[i]? = some ab ∧ ab.live = true ∧ ρ i = some (b, c) := by
    intro i ab' b c hi hv hr
    obtain ⟨ab, ha, hb⟩ := hget i ab' hi
    have hsat := bwk_sat (lt i ab' hi) hb (h.blk i ab ha)
    rw [Env.cut_lt (lt i ab' hi)] at hr
    rcases hsat.2 with rfl | e | e
    · cases hv
    · exact ⟨ab, ha, e ▸ hv, hr⟩
    · rw [e] at hr; cases hr
  refine ⟨h.os, h.tape, h.output, h.size, h.keep, ?_, ?_, ?_, ?_, ?_, ?_⟩
  · intro i ab' hi
    obtain ⟨ab, ha, hb⟩ := hget i ab' hi
    exact (bwk_sat (lt i ab' hi) hb (h.blk i ab ha)).1
  · intro i ab' b c hi hv hr
    obtain ⟨ab, ha, hv', hr'⟩ := back i ab' b c hi hv hr
    exact h.own i ab b c ha hv' hr'
  · intro i ab' b c hi hv hr
    obtain ⟨ab, ha, hv', hr'⟩ := back i ab' b c hi hv hr
    exact h.lt i ab b c ha hv' hr'
  · intro i j ai aj b c d hi hj hvi hvj hri hrj
    obtain ⟨a1, p1, p2, p3⟩ := back i ai b c hi hvi hri
    obtain ⟨a2, q1, q2, q3⟩ := back j aj b d hj hvj hrj
    exact h.inj i j a1 a2 b c d p1 q1 p2 q2 p3 q3
  · intro i hi
    simp [Env.cut, Nat.not_lt.2 hi]
  · intro a v e
    refine ⟨(h.ro a v e).1, (h.ro a v e).2.1, fun i ab' b c hi hv hr => ?_⟩
    obtain ⟨ab, ha, hv', hr'⟩ := back i ab' b c hi hv hr
    exact (h.ro a v e).2.2 i ab b c ha hv' hr'

/-- One list of slots gives another one: what is junk is forgotten. -/
def wk : List SV → List SV → Prop
  | [], [] => True
  | .junk :: l, _ :: r => wk l r
  | s :: l, v :: r => s = v ∧ wk l r
  | _, _ => False

theorem RL.wk {ρ : Env} : ∀ {l r : List SV} {vs : List Value}, Eng.wk l r → RL ρ r vs → RL ρ l vs
  | [], [], vs, _, h => h
  | .junk :: l, s :: r, [], _, h => by simp only [RL] at h
  | .junk :: l, s :: r, v :: vs, hw, h => by
    simp only [RL, Eng.wk] at h hw ⊢
    exact ⟨by simp only [R], RL.wk hw h.2⟩
  | s :: l, v :: r, vs, hw, h => by
    cases vs with
    | nil => simp only [RL] at h
    | cons x vs =>
      by_cases hj : s = .junk
      · subst hj
        simp only [RL, Eng.wk] at h hw ⊢
        exact ⟨by simp only [R], RL.wk hw h.2⟩
      · have hw' : s = v ∧ Eng.wk l r := by
          cases s <;> first | exact absurd rfl hj | exact hw
        simp only [RL] at h ⊢
        exact ⟨hw'.1 ▸ h.1, RL.wk hw'.2 h.2⟩
  | [], _ :: _, _, hw, _ => by simp [Eng.wk] at hw
  | _ :: _, [], _, hw, _ => by cases ‹SV› <;> simp [Eng.wk] at hw

end Go.Proofs.Ytmnpnnegnlhemaa.Eng
