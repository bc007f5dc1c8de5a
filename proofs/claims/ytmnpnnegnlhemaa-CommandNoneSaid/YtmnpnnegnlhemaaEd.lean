/- The engine's operations: addresses, lengths, slices, new blocks, aggregates. Plain lemmas; no statement of the seat. -/
import Derived.Test.YtmnpnnegnlhemaaEc
namespace Go.Proofs.Ytmnpnnegnlhemaa.Eng
open Go

/-! ### Addresses -/
def sField (P : Program) (H : List AB) (t : TypeId) (f : Nat) (a : SV) : Res :=
  match tfield P t f with
  | some (off, sz, _) => match a with
    | .ptr i o => ⟨sz ≠ 0, .ptr i (o + off), H⟩
    | .pel i s k j => ⟨sz ≠ 0, .pel i s k (j + off), H⟩
    | .raw (.pointer (some ⟨b, o, none⟩)) => ⟨sz ≠ 0, .raw (.pointer (some ⟨b, o + off, none⟩)), H⟩
    | _ => no
  | none => no

theorem tfield_some {P : Program} {t : TypeId} {f : Nat} {x : Nat × Nat × Bool} (h : tfield P t f = some x) :
    ∃ fs fd, P.underlying t = some (.struct fs) ∧ fs[f]? = some fd ∧ tknown P fd.type = true ∧ x = (fd.offset, tsize P fd.type, tagg P fd.type) := by
  unfold tfield at h
  split at h
  · rename_i fs hu
    cases hf : fs[f]? with
    | none => simp [hf] at h
    | some fd =>
      simp only [hf, Option.bind_some] at h
      split at h
      · rename_i hk
        cases h
        exact ⟨fs, fd, hu, hf, hk, rfl⟩
      · cases h
  · cases h

theorem sField_sound {P : Program} {ρ : Env} {H : List AB} {t : TypeId} {f : Nat} {s : SV} {v : Value} (hv : R ρ s v) (h : (sField P H t f s).pre) :
    (sField P H t f s).heap = H ∧ ∃ x, (∀ w, (Instr.fieldAt t v f).run P w = .ok x w) ∧ R ρ (sField P H t f s).val x := by
  unfold sField at h ⊢
  cases ht : tfield P t f with
  | none => rw [ht] at h; exact h.elim
  | some x =>
    rw [ht] at h
    obtain ⟨fs, fd, hu, hf, hk, rfl⟩ := tfield_some ht
    have go : ∀ (b o : Nat) (w : World), tsize P fd.type ≠ 0 → (Instr.fieldAt t (.pointer (some ⟨b, o, none⟩)) f).run P w = .ok (.pointer (some ⟨b, o + fd.offset, none⟩)) w := by
      intro b o w hz
      simp [Instr.fieldAt, run_underlying hu, hf, Instr.sureAddr, fieldPlace, run_sizeOf' hk, hz, addr_add]
    simp only at h ⊢
    split at h
    · simp only [R] at hv
      obtain ⟨b, c, h1, rfl⟩ := hv
      exact ⟨rfl, _, fun w => go b _ w h, by simp only [R]; exact ⟨b, c, h1, rfl⟩⟩
    · simp only [R] at hv
      obtain ⟨b, c, h1, rfl⟩ := hv
      exact ⟨rfl, _, fun w => go b _ w h, by simp only [R]; exact ⟨b, c, h1, by rw [Nat.add_assoc]⟩⟩
    · simp only [R] at hv
      subst hv
      exact ⟨rfl, _, fun w => go _ _ w h, by simp only [R]⟩
    · exact h.elim

/-- A part of an aggregate. -/
def sPart (P : Program) (H : List AB) (t : TypeId) (f : Nat) (a : SV) : Res :=
  match tfield P t f with
  | some (off, sz, ag) => match a with
    | .agg cs => match ag with
      | true => ⟨off + sz ≤ cs.length, .agg ((cs.drop off).take sz), H⟩
      | false => ⟨off < cs.length, hd1 ((cs.drop off).take 1), H⟩
    | _ => no
  | none => no

theorem sPart_sound {P : Program} {ρ : Env} {H : List AB} {t : TypeId} {f : Nat} {s : SV} {v : Value} (hv : R ρ s v) (h : (sPart P H t f s).pre) :
    (sPart P H t f s).heap = H ∧ ∃ x, (∀ w, (Instr.field t v f).run P w = .ok x w) ∧ R ρ (sPart P H t f s).val x := by
  unfold sPart at h ⊢
  cases ht : tfield P t f with
  | none => rw [ht] at h; exact h.elim
  | some x =>
    rw [ht] at h
    obtain ⟨fs, fd, hu, hf, hk, rfl⟩ := tfield_some ht
    simp only at h ⊢
    split at h
    · rename_i cs
      simp only [R] at hv
      obtain ⟨a, rfl, ha⟩ := hv
      cases hg : tagg P fd.type with
      | true =>
        rw [hg] at h
        refine ⟨rfl, .agg (a.extract fd.offset (fd.offset + tsize P fd.type)), fun w => ?_, ?_⟩
        · simp [Instr.field, run_underlying hu, hf, asAgg, part, run_isAgg' hk, run_sizeOf' hk, hg]
        · simp only [R]
          refine ⟨_, rfl, ?_⟩
          rw [Array.toList_extract]
          simp only [List.extract_eq_take_drop, Nat.add_sub_cancel_left]
          exact RL.take _ (RL.drop _ ha)
      | false =>
        rw [hg] at h
        have hl := ha.length
        have hlt : fd.offset < a.size := by simp at hl; simp at h; omega
        refine ⟨rfl, a[fd.offset], fun w => ?_, ?_⟩
        · simp [Instr.field, run_underlying hu, hf, asAgg, part, run_isAgg' hk, hg, hlt]
        · have hd := RL.take 1 (RL.drop fd.offset ha)
          have e : (a.toList.drop fd.offset).take 1 = [a[fd.offset]] := by
            rw [List.drop_eq_getElem_cons (by simpa using hlt)]
            simp
          rw [e] at hd
          simp only
          generalize (cs.drop fd.offset).take 1 = l at hd ⊢
          match l, hd with
          | [y], hd => simp only [RL] at hd; exact hd.1
          | [], hd => simp only [RL] at hd
          | _ :: _ :: _, hd => simp only [RL] at hd; exact hd.2.elim
    · exact h.elim

def sIndex (P : Program) (H : List AB) (t : TypeId) (x : SV) (ix : SV) : Res :=
  match ix with
  | .raw (.int _ n) => match x with
    | .lst i sz off len => match telem P t with
      | some e => ⟨(tknown P e = true ∧ tsize P e = sz) ∧ 0 ≤ n ∧ n < (len : Int), .pel i sz (off + n.toNat) 0, H⟩
      | none => no
    | .raw (.slice (some ⟨b, o, none⟩) len _) => match telem P t with
      | some e => ⟨tknown P e = true ∧ 0 ≤ n ∧ n < (len : Int), .raw (.pointer (some ⟨b, o + n.toNat * tsize P e, none⟩)), H⟩
      | none => no
    | .ptr i o => match tarr P t with
      | some (len, e) => ⟨tknown P e = true ∧ 0 ≤ n ∧ n < (len : Int), .ptr i (o + n.toNat * tsize P e), H⟩
      | none => no
    | _ => no
  | _ => no

theorem telem_some {P : Program} {t e : TypeId} (h : telem P t = some e) : P.underlying t = some (.slice e) := by
  unfold telem at h
  split at h
  · cases h; assumption
  · cases h
theorem tarr_some {P : Program} {t : TypeId} {x : Nat × TypeId} (h : tarr P t = some x) : P.underlying t = some (.array x.1 x.2) := by
  unfold tarr at h
  split at h
  · cases h; assumption
  · cases h

theorem sIndex_sound {P : Program} {ρ : Env} {H : List AB} {t : TypeId} {s ix : SV} {v vi : Value} (hv : R ρ s v) (hi : R ρ ix vi) (h : (sIndex P H t s ix).pre) :
    (sIndex P H t s ix).heap = H ∧ ∃ x, (∀ w, (Instr.indexAt t v vi).run P w = .ok x w) ∧ R ρ (sIndex P H t s ix).val x := by
  unfold sIndex at h ⊢
  split at h
  · rename_i k n
    simp only [R] at hi
    subst hi
    split at h
    · rename_i i sz off len
      split at h
      · rename_i e he
        obtain ⟨⟨hk, rfl⟩, h0, h1⟩ := h
        simp only [R] at hv
        rcases hv with ⟨rfl, _⟩ | ⟨b, c, a, e1, e2, rfl, e4⟩
        · simp at h1; omega
        · have ha := e4 (by omega)
          subst ha
          refine ⟨rfl, .pointer (some ⟨b, c.2 + off * tsize P e + n.toNat * tsize P e, none⟩), fun w => ?_, ?_⟩
          · simp [Instr.indexAt, asIntOf, run_underlying (telem_some he), h0, h1, run_sizeOf' hk, addr_add]
          · simp only [R]
            refine ⟨b, c, e1, ?_⟩
            rw [Nat.add_mul]
            simp only [Nat.add_zero, Nat.add_assoc]
      · exact h.elim
    · rename_i b o len cap
      split at h
      · rename_i e he
        obtain ⟨hk, h0, h1⟩ := h
        simp only [R] at hv
        subst hv
        refine ⟨rfl, _, fun w => ?_, by simp only [R]; rfl⟩
        simp [Instr.indexAt, asIntOf, run_underlying (telem_some he), h0, h1, run_sizeOf' hk, addr_add]
      · exact h.elim
    · rename_i i o
      split at h
      · rename_i len e he
        obtain ⟨hk, h0, h1⟩ := h
        simp only [R] at hv
        obtain ⟨b, c, e1, rfl⟩ := hv
        refine ⟨rfl, .pointer (some ⟨b, o + n.toNat * tsize P e, none⟩), fun w => ?_, by simp only [R]; exact ⟨b, c, e1, rfl⟩⟩
        have hu := tarr_some he
        simp [Instr.indexAt, asIntOf, run_underlying hu, h0, h1, run_sizeOf' hk, addr_add, Instr.sureAddr]
      · exact h.elim
    · exact h.elim
  · exact h.elim

def sLen (P : Program) (H : List AB) (t : TypeId) (x : SV) : Res :=
  match telem P t with
  | some _ => match x with
    | .lst _ _ _ len => ⟨True, .raw (.int .i64 (len : Int)), H⟩
    | .raw (.slice _ len _) => ⟨True, .raw (.int .i64 (len : Int)), H⟩
    | _ => no
  | none => no

theorem sLen_sound {P : Program} {ρ : Env} {H : List AB} {t ty : TypeId} {s : SV} {v : Value} (hv : R ρ s v) (h : (sLen P H t s).pre) :
    (sLen P H t s).heap = H ∧ ∃ x, (∀ w, (Builtin.len_ #[t] ty #[v]).run P w = .ok x w) ∧ R ρ (sLen P H t s).val x := by
  unfold sLen at h ⊢
  split at h
  · rename_i e he
    split at h
    · rename_i i sz off len
      simp only [R] at hv
      refine ⟨rfl, .int .i64 (len : Int), fun w => ?_, by simp only [R]⟩
      rcases hv with ⟨rfl, rfl⟩ | ⟨b, c, a, e1, e2, rfl, e4⟩
      · simp [Builtin.len_, run_underlying (telem_some he), goInt]
      · simp [Builtin.len_, run_underlying (telem_some he), goInt]
    · rename_i a len cap
      simp only [R] at hv
      subst hv
      refine ⟨rfl, .int .i64 (len : Int), fun w => ?_, by simp only [R]⟩
      cases a <;> simp [Builtin.len_, run_underlying (telem_some he), goInt]
    · exact h.elim
  · exact h.elim

/-- x[lo:] -/
def sSlice (P : Program) (H : List AB) (t : TypeId) (x lo : SV) : Res :=
  match telem P t with
  | some e => match lo with
    | .raw (.int _ n) => match x with
      | .lst i sz off len => ⟨(tknown P e = true ∧ tsize P e = sz) ∧ 0 ≤ n ∧ n ≤ (len : Int), .lst i sz (off + n.toNat) (len - n.toNat), H⟩
      | _ => no
    | _ => no
  | none => no

theorem sSlice_sound {P : Program} {ρ : Env} {H : List AB} {t : TypeId} {s lo : SV} {v vl : Value} (hv : R ρ s v) (hl : R ρ lo vl) (h : (sSlice P H t s lo).pre) :
    (sSlice P H t s lo).heap = H ∧ ∃ x, (∀ w, (Instr.sliceAt t v (some vl) none none).run P w = .ok x w) ∧ R ρ (sSlice P H t s lo).val x := by
  unfold sSlice at h ⊢
  split at h
  · rename_i e he
    split at h
    · rename_i k n
      split at h
      · rename_i i sz off len
        obtain ⟨⟨hk, rfl⟩, h0, h1⟩ := h
        simp only [R] at hv hl
        subst hl
        rcases hv with ⟨rfl, rfl⟩ | ⟨b, c, a, e1, e2, rfl, e4⟩
        · have hn : n = 0 := by simp at h1; omega
          subst hn
          refine ⟨rfl, .slice none 0 0, fun w => ?_, by simp [R]⟩
          simp [Instr.sliceAt, run_underlying (telem_some he), Instr.slice, Instr.sliceBounds, Instr.sliceBound, asIntOf, run_sizeOf' hk]
        · refine ⟨rfl, .slice (if c.1 - off = n.toNat then some a else (some a).map (·.add (n.toNat * tsize P e))) (len - n.toNat) (c.1 - off - n.toNat), fun w => ?_, ?_⟩
          · simp [Instr.sliceAt, run_underlying (telem_some he), Instr.slice, Instr.sliceBounds, Instr.sliceBound, asIntOf, run_sizeOf' hk, h0, h1]
          · simp only [R]
            have hnl : n.toNat ≤ len := by omega
            refine .inr ⟨b, c, if c.1 - off = n.toNat then a else a.add (n.toNat * tsize P e), e1, by omega, ?_, ?_⟩
            · rw [Nat.sub_sub]
              split <;> rfl
            · intro hlt
              rw [if_neg (by omega), e4 (by omega), addr_add, Nat.add_mul, Nat.add_assoc]
      · exact h.elim
    · exact h.elim
  · exact h.elim

/-! ### New blocks of known cells -/
theorem heap_new (w : World) (o : Obj) : (w.alloc o).heap[w.heap.size]? = some o := by
  show (w.heap.push o)[w.heap.size]? = _
  simp

/-- Where a new block goes: behind all others, or into a hole that waits for it. -/
def isHole : AB → Bool
  | .hole => true
  | _ => false
def holeAt (H : List AB) : Option Nat → Prop
  | none => True
  | some i => isHole (hget H i) = true
def idxAt (H : List AB) : Option Nat → Nat
  | none => H.length
  | some i => i
def pushAt (H : List AB) (ab : AB) : Option Nat → List AB
  | none => H ++ [ab]
  | some i => hset H i ab

theorem hget_hole : ∀ {H : List AB} {i : Nat}, isHole (hget H i) = true → H[i]? = some .hole
  | [], _, h => by simp [hget, isHole] at h
  | a :: _, 0, h => by
    simp only [hget] at h
    cases a <;> simp [isHole] at h
    simp
  | _ :: l, n + 1, h => by simpa [hget] using hget_hole (H := l) (i := n) (by simpa [hget] using h)

theorem Sat.newAt {g : G} {ρ : Env} {H : List AB} {w : World} (h : Sat g ρ H w) (q : Option Nat) (hq : holeAt H q) (c : Nat × Nat) (ab : AB) (o : Obj)
    (hb : Env.le ρ (ρ.ext (idxAt H q) (w.heap.size, c)) → BSat (ρ.ext (idxAt H q) (w.heap.size, c)) (idxAt H q) (w.alloc o) ab) :
    Env.le ρ (ρ.ext (idxAt H q) (w.heap.size, c)) ∧ Sat g (ρ.ext (idxAt H q) (w.heap.size, c)) (pushAt H ab q) (w.alloc o) := by
  have hn : ρ (idxAt H q) = none := by
    cases q with
    | none => exact h.out H.length (Nat.le_refl _)
    | some i =>
      have := h.blk i _ (hget_hole hq)
      exact this
  have hle := Env.le_ext (x := (w.heap.size, c)) hn
  refine ⟨hle, h.new (c := c) o hn ?_ (hb hle)⟩
  cases q with
  | none => exact .inl ⟨rfl, rfl⟩
  | some i => exact .inr ⟨hget_hole hq, by simp [pushAt, hset_eq, idxAt]⟩

def sNew (H : List AB) (q : Option Nat) (cs : List SV) (t : TypeId) : Res := ⟨holeAt H q, .ptr (idxAt H q) 0, pushAt H (.cells cs t) q⟩

theorem sNew_sat {g : G} {ρ : Env} {H : List AB} {w : World} (hs : Sat g ρ H w) (q : Option Nat) (hq : holeAt H q) (cs : List SV) (vs : Array Value) (t : TypeId) (hr : RL ρ cs vs.toList) :
    ∃ ρ', Env.le ρ ρ' ∧ Sat g ρ' (pushAt H (.cells cs t) q) (w.alloc (.cells vs t)) ∧ R ρ' (.ptr (idxAt H q) 0) (.pointer (some ⟨w.heap.size, 0, none⟩)) := by
  have hat : (ρ.ext (idxAt H q) (w.heap.size, (0, 0))) (idxAt H q) = some (w.heap.size, (0, 0)) := by simp [Env.ext]
  obtain ⟨k1, k2⟩ := hs.newAt q hq (0, 0) (.cells cs t) (.cells vs t) (fun hle => ⟨_, _, vs, hat, heap_new w _, RL.mono hle _ _ hr⟩)
  exact ⟨_, k1, k2, by simp only [R]; exact ⟨_, _, hat, rfl⟩⟩

def sAlloc (P : Program) (H : List AB) (q : Option Nat) (t : TypeId) : Res :=
  match tzero P t with
  | some z => sNew H q (z.map SV.raw) t
  | none => no

theorem tzero_some {P : Program} {t : TypeId} {z : List Value} (h : tzero P t = some z) : ∃ i v, P.info? t = some i ∧ i.zero = some v ∧ v.cells.toList = z := by
  unfold tzero at h
  cases hi : P.info? t with
  | none => simp [hi] at h
  | some i =>
    cases hz : i.zero with
    | none => simp [hi, hz] at h
    | some v => simp [hi, hz] at h; exact ⟨i, v, rfl, hz, h⟩

theorem sAlloc_sound {P : Program} {g : G} {ρ : Env} {H : List AB} {w : World} (hs : Sat g ρ H w) {q : Option Nat} {t : TypeId} (h : (sAlloc P H q t).pre) :
    ∃ ρ' x w', (Instr.alloc t true (.tuple #[])).run P w = .ok x w' ∧ Env.le ρ ρ' ∧ Sat g ρ' (sAlloc P H q t).heap w' ∧ R ρ' (sAlloc P H q t).val x := by
  unfold sAlloc at h ⊢
  cases hz : tzero P t with
  | none => rw [hz] at h; exact h.elim
  | some z =>
    obtain ⟨i, v, h1, h2, rfl⟩ := tzero_some hz
    rw [hz] at h
    obtain ⟨ρ', k1, k2, k3⟩ := sNew_sat hs q h (v.cells.toList.map SV.raw) v.cells t (RL.raws _)
    refine ⟨ρ', _, _, ?_, k1, k2, k3⟩
    simp [Instr.alloc, zeroValue, typeInfo, h1, h2, newVar, newRow]

def sBox (H : List AB) (q : Option Nat) (t : TypeId) (x : SV) : Res := ⟨holeAt H q ∧ (vcells x).all one = true, .ptr (idxAt H q) 0, pushAt H (.cells (vcells x) t) q⟩

theorem sBox_sound {P : Program} {g : G} {ρ : Env} {H : List AB} {w : World} (hs : Sat g ρ H w) {q : Option Nat} {t : TypeId} {s : SV} {v : Value} (hv : R ρ s v) (h : (sBox H q t s).pre) :
    ∃ ρ' x w', (Instr.box t v).run P w = .ok x w' ∧ Env.le ρ ρ' ∧ Sat g ρ' (sBox H q t s).heap w' ∧ R ρ' (sBox H q t s).val x := by
  obtain ⟨ρ', k1, k2, k3⟩ := sNew_sat hs q h.1 (vcells s) v.cells t (vcells_spec h.2 hv).1
  refine ⟨ρ', _, _, ?_, k1, k2, k3⟩
  simp [Instr.box, newVar, newRow]

/-! ### Aggregates -/
def whole : SV → Bool
  | .agg _ => true
  | s => one s

theorem whole_spec {ρ : Env} {s : SV} {v : Value} (h : whole s = true) (hv : R ρ s v) : RL ρ (vcells s) v.cells.toList := by
  cases s with
  | agg cs =>
    simp only [R] at hv
    obtain ⟨a, rfl, h2⟩ := hv
    exact h2
  | _ =>
    simp only [whole] at h
    obtain ⟨h1, h2, h3⟩ := one_spec h hv
    rw [h2, h3]
    simp only [RL]
    exact ⟨hv, trivial⟩

def sFill (place : Nat → Option (Nat × Nat)) : List (Nat × SV) → List SV → Prop × List SV
  | [], cs => (True, cs)
  | (i, v) :: r, cs => match place i with
    | some (off, sz) => ((whole v = true ∧ (vcells v).length = sz ∧ off + sz ≤ cs.length) ∧ (sFill place r (splice cs off (vcells v))).1, (sFill place r (splice cs off (vcells v))).2)
    | none => (False, [])

theorem foldl_put (v : List Value) : ∀ (off : Nat) (cs : Array Value), off + v.length ≤ cs.size →
    ((v.zipIdx).foldl (fun cs (x : Value × Nat) => cs.setIfInBounds (off + x.2) x.1) cs).toList = cs.toList.take off ++ v ++ cs.toList.drop (off + v.length) := by
  have key : ∀ (l : List Value) (q off : Nat) (cs : Array Value), off + q + l.length ≤ cs.size →
      ((l.zipIdx q).foldl (fun cs (x : Value × Nat) => cs.setIfInBounds (off + x.2) x.1) cs).toList = cs.toList.take (off + q) ++ l ++ cs.toList.drop (off + q + l.length) := by
    intro l
    induction l with
    | nil => intro q off cs _; simp
    | cons x l ih =>
      intro q off cs hl
      simp only [List.zipIdx_cons, List.foldl_cons]
      rw [ih (q + 1) off _ (by simp at hl ⊢; omega)]
      simp only [List.length_cons] at hl
      apply List.ext_getElem?
      intro j
      have e1 := splice_get (cs.setIfInBounds (off + q) x).toList l (off + (q + 1)) (by simp; omega) j
      have e2 := splice_get cs.toList (x :: l) (off + q) (by simp; omega) j
      rw [e1, e2]
      simp only [Array.toList_setIfInBounds, List.length_cons]
      by_cases h1 : j < off + q
      · rw [if_pos (by omega), if_pos h1, List.getElem?_set_ne (by omega)]
      · rw [if_neg h1]
        by_cases h2 : j = off + q
        · subst h2
          rw [if_pos (by omega), if_pos (by omega), List.getElem?_set_self (by simp; omega)]
          simp
        · rw [if_neg (by omega)]
          by_cases h3 : j < off + (q + 1) + l.length
          · rw [if_pos h3, if_pos (by omega)]
            rw [show j - (off + q) = (j - (off + (q + 1))) + 1 by omega]
            simp
          · rw [if_neg h3, if_neg (by omega), List.getElem?_set_ne (by omega)]
  intro off cs h
  have := key v 0 off cs (by simpa using h)
  simpa using this

theorem sFill_sound {ρ : Env} (place : Nat → Option (Nat × Nat)) : ∀ (ps : List (Nat × SV)) (qs : List (Nat × Value)) (cs : List SV) (a : Array Value),
    (sFill place ps cs).1 → RL ρ cs a.toList → ps.map (·.1) = qs.map (·.1) → RL ρ (ps.map (·.2)) (qs.map (·.2)) →
    ∃ a', Instr.fill place a qs = some a' ∧ RL ρ (sFill place ps cs).2 a'.toList
  | [], [], cs, a, _, hr, _, _ => ⟨a, rfl, hr⟩
  | [], _ :: _, _, _, _, _, h, _ => by simp at h
  | _ :: _, [], _, _, _, _, h, _ => by simp at h
  | (i, s) :: ps, (i', v) :: qs, cs, a, h, hr, hi, hp => by
    simp only [List.map_cons, List.cons.injEq] at hi
    obtain ⟨rfl, hi⟩ := hi
    simp only [List.map_cons, RL] at hp
    simp only [sFill] at h ⊢
    cases hpl : place i with
    | none => rw [hpl] at h; exact h.elim
    | some x =>
      obtain ⟨off, sz⟩ := x
      rw [hpl] at h
      simp only at h ⊢
      obtain ⟨⟨h1, rfl, h3⟩, h4⟩ := h
      have hw := whole_spec h1 hp.1
      have hl := hw.length
      have hl2 := hr.length
      simp only [Array.length_toList] at hl hl2
      have hput := foldl_put v.cells.toList off a (by simp; omega)
      have hput' : (v.cells.zipIdx.foldl (fun cs (x : Value × Nat) => cs.setIfInBounds (off + x.2) x.1) a).toList = a.toList.take off ++ v.cells.toList ++ a.toList.drop (off + v.cells.toList.length) := by
        rw [← hput]
        rw [← Array.foldl_toList]
        simp
      obtain ⟨a', g1, g2⟩ := sFill_sound place ps qs (splice cs off (vcells s)) (v.cells.zipIdx.foldl (fun cs (x : Value × Nat) => cs.setIfInBounds (off + x.2) x.1) a) h4 (by
        rw [hput']
        unfold splice
        rw [show (vcells s).length = v.cells.toList.length by simpa using hl]
        exact RL.append (RL.append (RL.take _ hr) hw) (RL.drop _ hr)) hi hp.2
      refine ⟨a', ?_, g2⟩
      simp only [Instr.fill, hpl]
      rw [if_neg (by simp; omega)]
      exact g1

/-- The fields' places of a struct type. -/
def tplaces (P : Program) (t : TypeId) : Option (List (Nat × Nat)) := match P.underlying t with
  | some (.struct fs) => if fs.toList.all (fun f => tknown P f.type) then some (fs.toList.map fun f => (f.offset, tsize P f.type)) else none
  | _ => none

def nth (l : List (Nat × Nat)) : Nat → Option (Nat × Nat) := match l with
  | [] => fun _ => none
  | x :: r => fun n => match n with
    | 0 => some x
    | n + 1 => nth r n

theorem nth_eq : ∀ (l : List (Nat × Nat)) (n : Nat), nth l n = l[n]?
  | [], n => by simp [nth]
  | x :: r, 0 => by simp [nth]
  | x :: r, n + 1 => by simp [nth, nth_eq r n]

def sBuild (P : Program) (H : List AB) (t : TypeId) (ps : List (Nat × SV)) : Res :=
  match tzero P t, tplaces P t with
  | some z, some pl => ⟨(sFill (nth pl) ps (z.map SV.raw)).1, .agg (sFill (nth pl) ps (z.map SV.raw)).2, H⟩
  | _, _ => no

theorem run_places {P : Program} (w : World) : ∀ (fs : List Field), (fs.all fun f => tknown P f.type) = true →
    (fs.mapM (m := Sem) fun f => do pure (f.offset, ← sizeOf f.type)).run P w = .ok (fs.map fun f => (f.offset, tsize P f.type)) w
  | [], _ => by simp
  | f :: fs, h => by
    simp only [List.all_cons, Bool.and_eq_true] at h
    simp only [List.mapM_cons, Sem.run_bind, run_sizeOf' h.1, Result.andThen_ok, Sem.run_pure, run_places w fs h.2, List.map_cons]

theorem sBuild_sound {P : Program} {ρ : Env} {H : List AB} {t : TypeId} {ps : List (Nat × SV)} {qs : Array (Nat × Value)} (hi : ps.map (·.1) = qs.toList.map (·.1)) (hp : RL ρ (ps.map (·.2)) (qs.toList.map (·.2))) (h : (sBuild P H t ps).pre) :
    (sBuild P H t ps).heap = H ∧ ∃ x, (∀ w, (Instr.build t qs).run P w = .ok x w) ∧ R ρ (sBuild P H t ps).val x := by
  unfold sBuild at h ⊢
  split at h
  · rename_i z pl hz hpl
    obtain ⟨i, v, h1, h2, rfl⟩ := tzero_some hz
    obtain ⟨a', g1, g2⟩ := sFill_sound (nth pl) ps qs.toList (v.cells.toList.map SV.raw) v.cells h (RL.raws _) hi hp
    unfold tplaces at hpl
    split at hpl
    · rename_i fs hu
      split at hpl
      · rename_i hall
        cases hpl
        refine ⟨rfl, .agg a', fun w => ?_, by simp only [R]; exact ⟨a', rfl, g2⟩⟩
        have hm : (fs.mapM (m := Sem) fun f => do pure (f.offset, ← sizeOf f.type)).run P w = .ok (fs.toList.map fun f => (f.offset, tsize P f.type)).toArray w := by
          rw [← Array.toArray_toList (xs := fs), List.mapM_toArray]
          simp only [Sem.run_map, run_places w fs.toList hall, Result.andThen_ok]
        have hpe : (fun x => ((fs.toList.map fun f => (f.offset, tsize P f.type)).toArray)[x]?) = nth (fs.toList.map fun f => (f.offset, tsize P f.type)) := by
          funext x; rw [nth_eq]; simp
        simp only [Instr.build, zeroValue, typeInfo, Sem.run_bind, run_program, h1, h2, Result.andThen_ok, Sem.run_pure, run_underlying hu, hm, hpe, g1]
      · cases hpl
    · cases hpl
  · exact h.elim

/-! ### Slices that are written out -/
def lg (l : List (List SV)) : Nat → List SV := match l with
  | [] => fun _ => []
  | x :: r => fun n => match n with
    | 0 => x
    | n + 1 => lg r n

end Go.Proofs.Ytmnpnnegnlhemaa.Eng
