/- The engine's operations: slices that are made, written out, appended to. Plain lemmas; no statement of the seat. -/
import Derived.Test.YtmnpnnegnlhemaaEd
namespace Go.Proofs.Ytmnpnnegnlhemaa.Eng
open Go

def zrep : Nat → List Value → List Value
  | 0, _ => []
  | n + 1, z => z ++ zrep n z

theorem zrep_length : ∀ (n : Nat) (z : List Value), (zrep n z).length = n * z.length
  | 0, z => by simp [zrep]
  | n + 1, z => by simp [zrep, zrep_length n z, Nat.succ_mul, Nat.add_comm]

theorem zrep_get : ∀ (n : Nat) (z : List Value) (k j : Nat), k < n → j < z.length → (zrep n z)[k * z.length + j]? = z[j]?
  | 0, _, _, _, h, _ => by omega
  | n + 1, z, 0, j, _, hj => by
    simp only [zrep, Nat.zero_mul, Nat.zero_add]
    rw [List.getElem?_append_left hj]
  | n + 1, z, k + 1, j, hk, hj => by
    simp only [zrep]
    rw [List.getElem?_append_right (by rw [Nat.succ_mul]; omega)]
    rw [show (k + 1) * z.length + j - z.length = k * z.length + j by rw [Nat.succ_mul]; omega]
    exact zrep_get n z k j (by omega) hj

theorem zrep_all (n : Nat) (z : List Value) (i : Nat) (h : i < n * z.length) : (zrep n z)[i]? = z[i % z.length]? := by
  have hz : 0 < z.length := by
    rcases Nat.eq_zero_or_pos z.length with h0 | h0
    · rw [h0] at h; omega
    · exact h0
  have e := Nat.div_add_mod i z.length
  have hk : i / z.length < n := by
    rw [Nat.div_lt_iff_lt_mul hz]; exact h
  have := zrep_get n z (i / z.length) (i % z.length) hk (Nat.mod_lt _ hz)
  rwa [Nat.mul_comm, e] at this

theorem madeCells_eq (z : Array Value) (n : Nat) : (madeCells z (n * z.size)).toList = zrep n z.toList := by
  apply List.ext_getElem?
  intro i
  by_cases h : i < n * z.size
  · rw [zrep_all _ _ _ (by simpa using h)]
    have hz : 0 < z.size := by
      rcases Nat.eq_zero_or_pos z.size with h0 | h0
      · rw [h0] at h; omega
      · exact h0
    have hm : i % z.size < z.size := Nat.mod_lt _ hz
    simp [madeCells, h, hm]
  · rw [List.getElem?_eq_none (by simp [size_madeCells]; omega), List.getElem?_eq_none (by rw [zrep_length]; simp; omega)]

/-- A block for a new list. -/
theorem sList_satAt {g : G} {ρ : Env} {H : List AB} {w : World} (hs : Sat g ρ H w) (q : Option Nat) (hq : holeAt H q) (n c sz : Nat) (f : Nat → List SV) (vs : Array Value) (t : TypeId) (hn : n ≤ c) (hz : vs.size = c * sz)
    (hr : ∀ k j s, k < n → j < sz → (f k)[j]? = some s → ∃ x, vs[k * sz + j]? = some x ∧ R ρ s x) :
    ∃ ρ', Env.le ρ ρ' ∧ Sat g ρ' (pushAt H (.lst n sz f t) q) (w.alloc (.cells vs t)) ∧ R ρ' (.lst (idxAt H q) sz 0 n) (.slice (some ⟨w.heap.size, 0, none⟩) n c) := by
  have hat : (ρ.ext (idxAt H q) (w.heap.size, (c, 0))) (idxAt H q) = some (w.heap.size, (c, 0)) := by simp [Env.ext]
  obtain ⟨k1, k2⟩ := hs.newAt q hq (c, 0) (.lst n sz f t) (.cells vs t) (fun hle => by
    refine .inr ⟨_, _, vs, hat, heap_new w _, hn, by simpa using hz, fun k j s hk hj hf => ?_⟩
    obtain ⟨x, hx, hx'⟩ := hr k j s hk hj hf
    exact ⟨x, by simpa using hx, R.mono hle _ _ hx'⟩)
  refine ⟨_, k1, k2, ?_⟩
  simp only [R]
  exact .inr ⟨_, _, ⟨w.heap.size, 0, none⟩, hat, by simpa using hn, by simp, fun _ => by simp⟩

theorem sList_sat {g : G} {ρ : Env} {H : List AB} {w : World} (hs : Sat g ρ H w) (n c sz : Nat) (f : Nat → List SV) (vs : Array Value) (t : TypeId) (hn : n ≤ c) (hz : vs.size = c * sz)
    (hr : ∀ k j s, k < n → j < sz → (f k)[j]? = some s → ∃ x, vs[k * sz + j]? = some x ∧ R ρ s x) :
    ∃ ρ', Env.le ρ ρ' ∧ Sat g ρ' (H ++ [.lst n sz f t]) (w.alloc (.cells vs t)) ∧ R ρ' (.lst H.length sz 0 n) (.slice (some ⟨w.heap.size, 0, none⟩) n c) :=
  sList_satAt hs none trivial n c sz f vs t hn hz hr

def tbytes? (P : Program) (t : TypeId) : Nat := ((P.info? t).map (·.bytes)).getD 0

def sMake (P : Program) (H : List AB) (q : Option Nat) (t : TypeId) (l c : SV) : Res :=
  match telem P t, l, c with
  | some e, .raw (.int _ n), .raw (.int _ m) => match tzero P e with
    | some z => ⟨holeAt H q ∧ n = m ∧ 0 ≤ n ∧ (tbytes? P e : Int) * n ≤ 140737488355328 ∧ n ≤ 140737488355328 ∧ z.length = tsize P e, .lst (idxAt H q) (tsize P e) 0 n.toNat, pushAt H (.lst n.toNat (tsize P e) (fun _ => z.map SV.raw) e) q⟩
    | none => no
  | _, _, _ => no

theorem sMake_sound {P : Program} {g : G} {ρ : Env} {H : List AB} {w : World} (hs : Sat g ρ H w) {q : Option Nat} {t : TypeId} {l c : SV} {vl vc : Value} (hl : R ρ l vl) (hc : R ρ c vc) (h : (sMake P H q t l c).pre) :
    ∃ ρ' x w', (Instr.makeSlice t vl vc).run P w = .ok x w' ∧ Env.le ρ ρ' ∧ Sat g ρ' (sMake P H q t l c).heap w' ∧ R ρ' (sMake P H q t l c).val x := by
  unfold sMake at h ⊢
  split at h
  · rename_i e _ n _ m he
    simp only [R] at hl hc
    subst hl; subst hc
    split at h
    · rename_i z hz
      obtain ⟨hq, rfl, h0, hb, h63, hzl⟩ := h
      obtain ⟨i, v, h1, h2, rfl⟩ := tzero_some hz
      have hsz : tsize P e = i.size := by simp [tsize, Program.cellsOf, h1]
      have hby : tbytes? P e = i.bytes := by simp [tbytes?, h1]
      rw [hby] at hb
      rw [hsz] at hzl ⊢
      have hzs : v.cells.size = i.size := by simpa using hzl
      obtain ⟨ρ', k1, k2, k3⟩ := sList_satAt hs q hq n.toNat n.toNat i.size (fun _ => v.cells.toList.map SV.raw) (madeCells v.cells (n.toNat * i.size)) e (Nat.le_refl _) (size_madeCells _ _) (by
        intro k j s hk hj hf
        refine ⟨v.cells[j]'(by omega), ?_, ?_⟩
        · rw [← Array.getElem?_toList, ← hzs, madeCells_eq]
          have := zrep_get n.toNat v.cells.toList k j hk (by simp; omega)
          simp only [Array.length_toList] at this
          rw [this]
          simp
        · have hj' : j < v.cells.size := by omega
          simp [hj'] at hf
          subst hf
          simp only [R])
      exact ⟨ρ', _, _, run_make w t e i v (telem_some he) h1 h2 _ _ n n h0 (Int.le_refl _) (by omega) (by omega), k1, k2, k3⟩
    · exact h.elim
  · exact h.elim

/-! ### Slices that are written out -/
def sLit (P : Program) (H : List AB) (q : Option Nat) (t : TypeId) (len : Nat) (ps : List (Nat × SV)) : Res :=
  match telem P t with
  | some e => match tzero P e with
    | some z => ⟨holeAt H q ∧ (sFill (fun i => some (i * tsize P e, tsize P e)) ps ((zrep len z).map SV.raw)).1 ∧ tknown P e = true ∧ z.length = tsize P e ∧ len * tsize P e ≤ 16777216,
        .lst (idxAt H q) (tsize P e) 0 len,
        pushAt H (.lst len (tsize P e) (fun k => ((sFill (fun i => some (i * tsize P e, tsize P e)) ps ((zrep len z).map SV.raw)).2.drop (k * tsize P e)).take (tsize P e)) e) q⟩
    | none => no
  | none => no

theorem sFill_length (place : Nat → Option (Nat × Nat)) : ∀ (ps : List (Nat × SV)) (cs : List SV), (sFill place ps cs).1 → (sFill place ps cs).2.length = cs.length
  | [], cs, _ => rfl
  | (i, s) :: ps, cs, h => by
    simp only [sFill] at h ⊢
    split at h
    · rename_i off sz hp
      obtain ⟨⟨h1, h2, h3⟩, h4⟩ := h
      rw [sFill_length place ps _ h4]
      simp [splice]; omega
    · exact h.elim

theorem sLit_sound {P : Program} {g : G} {ρ : Env} {H : List AB} {w : World} (hs : Sat g ρ H w) {q : Option Nat} {t : TypeId} {len : Nat} {ps : List (Nat × SV)} {qs : Array (Nat × Value)}
    (hi : ps.map (·.1) = qs.toList.map (·.1)) (hp : RL ρ (ps.map (·.2)) (qs.toList.map (·.2))) (h : (sLit P H q t len ps).pre) :
    ∃ ρ' x w', (Instr.buildSlice t len qs).run P w = .ok x w' ∧ Env.le ρ ρ' ∧ Sat g ρ' (sLit P H q t len ps).heap w' ∧ R ρ' (sLit P H q t len ps).val x := by
  unfold sLit at h ⊢
  split at h
  · rename_i e he
    split at h
    · rename_i z hz
      obtain ⟨hq, h1, hk, hzl, hb⟩ := h
      obtain ⟨i, v, g1, g2, rfl⟩ := tzero_some hz
      have hsz : tsize P e = i.size := by simp [tsize, Program.cellsOf, g1]
      have hzs : v.cells.size = tsize P e := by simpa using hzl
      have hm : (madeCells v.cells (len * tsize P e)).toList = zrep len v.cells.toList := by rw [← hzs]; exact madeCells_eq _ _
      obtain ⟨a', f1, f2⟩ := sFill_sound (fun i => some (i * tsize P e, tsize P e)) ps qs.toList ((zrep len v.cells.toList).map SV.raw) (madeCells v.cells (len * tsize P e)) h1 (by rw [hm]; exact RL.raws _) hi hp
      have hla : a'.size = len * tsize P e := by
        have := f2.length
        rw [sFill_length _ _ _ h1] at this
        simp only [List.length_map, zrep_length, Array.length_toList, hzs] at this
        exact this.symm
      obtain ⟨ρ', k1, k2, k3⟩ := sList_satAt hs q hq len len (tsize P e) (fun k => ((sFill (fun i => some (i * tsize P e, tsize P e)) ps ((zrep len v.cells.toList).map SV.raw)).2.drop (k * tsize P e)).take (tsize P e)) a' e (Nat.le_refl _) hla (by
        intro k j s hk' hj hf
        rw [List.getElem?_take, if_pos hj, List.getElem?_drop] at hf
        obtain ⟨x, hx, hr⟩ := f2.get _ _ hf
        exact ⟨x, by simpa using hx, hr⟩)
      refine ⟨ρ', _, _, ?_, k1, k2, k3⟩
      have hb' : ¬ (16777216 < len * i.size) := by rw [← hsz]; omega
      have f1' : Instr.fill (fun j => some (j * i.size, i.size)) (madeCells v.cells (len * i.size)) qs.toList = some a' := by rw [← hsz]; exact f1
      by_cases h00 : len * i.size = 0
      · rw [h00] at f1'
        have hma : madeCells v.cells 0 = #[] := by simp [madeCells, Array.range_zero']
        rw [hma] at f1'
        simp [Instr.buildSlice, run_underlying (telem_some he), sizeOf, typeInfo, g1, h00, Array.range_zero', f1', newRow]
      · have hma : (Array.map (fun x => v.cells[x % v.cells.size]!) (Array.range (len * i.size))) = madeCells v.cells (len * i.size) := rfl
        simp [Instr.buildSlice, run_underlying (telem_some he), sizeOf, typeInfo, g1, zeroValue, g2, h00, hb', hma, f1', newRow]
    · exact h.elim
  · exact h.elim

end Go.Proofs.Ytmnpnnegnlhemaa.Eng
