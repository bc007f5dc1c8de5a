/- The engine's operations on memory: loads, stores, addresses, new blocks. Plain lemmas; no statement of the seat. -/
import Derived.Test.YtmnpnnegnlhemaaEb
namespace Go.Proofs.Ytmnpnnegnlhemaa.Eng
open Go

theorem addr_add (b o n : Nat) : (⟨b, o, none⟩ : Addr).add n = ⟨b, o + n, none⟩ := by
  unfold Addr.add
  split
  · subst n; rfl
  · rfl

theorem cell_of (w : World) (b o : Nat) (a : Array Value) (t : TypeId) (fr : Nat × Nat) (h : w.heap[b]? = some (.cells a t fr)) : w.cell? ⟨b, o, none⟩ = a[o]? := by
  unfold World.cell?
  rw [h]
  rfl

/-! ### What lies at a pointer -/
def roCells (E : Addr → Option Value) (b o : Nat) : Nat → Prop × List SV
  | 0 => (True, [])
  | m + 1 => ((E ⟨b, o, none⟩).isSome = true ∧ (roCells E b (o + 1) m).1, .raw ((E ⟨b, o, none⟩).getD undef) :: (roCells E b (o + 1) m).2)

def cellsAt (E : Addr → Option Value) (H : List AB) : SV → Nat → Prop × List SV
  | .ptr i o, m => match hget H i with
    | .cells cs _ => (o + m ≤ cs.length, (cs.drop o).take m)
    | _ => (False, [])
  | .pel i sz k j, m => match hget H i with
    | .lst n sz' f _ => (k < n ∧ sz' = sz ∧ j + m ≤ sz ∧ j + m ≤ (f k).length, ((f k).drop j).take m)
    | _ => (False, [])
  | .raw (.pointer (some ⟨b, o, none⟩)), m => roCells E b o m
  | _, _ => (False, [])

theorem roCells_spec {g : G} {ρ : Env} {H : List AB} {w : World} (hs : Sat g ρ H w) (b : Nat) : ∀ (m o : Nat), (roCells g.E b o m).1 →
    ∃ vs : List Value, vs.length = m ∧ (∀ j x, vs[j]? = some x → w.cell? ⟨b, o + j, none⟩ = some x) ∧ RL ρ (roCells g.E b o m).2 vs
  | 0, o, _ => ⟨[], rfl, by simp, by simp [roCells, RL]⟩
  | m + 1, o, h => by
    simp only [roCells] at h ⊢
    obtain ⟨vs, h1, h2, h3⟩ := roCells_spec hs b m (o + 1) h.2
    obtain ⟨v, hv⟩ := Option.isSome_iff_exists.1 h.1
    refine ⟨v :: vs, by simp [h1], ?_, ?_⟩
    · intro j x hx
      cases j with
      | zero => simp at hx; subst hx; exact (hs.ro _ _ hv).1
      | succ j =>
        simp at hx
        have := h2 j x hx
        rwa [show o + 1 + j = o + (j + 1) by omega] at this
    · simp only [RL, R, hv, Option.getD_some, true_and]
      exact h3

theorem cellsAt_spec {g : G} {ρ : Env} {H : List AB} {w : World} (hs : Sat g ρ H w) {s : SV} {v : Value} (hv : R ρ s v) (m : Nat) (h : (cellsAt g.E H s m).1) :
    ∃ (b o : Nat) (vs : List Value), v = .pointer (some ⟨b, o, none⟩) ∧ vs.length = m ∧ (∀ j x, vs[j]? = some x → w.cell? ⟨b, o + j, none⟩ = some x) ∧ RL ρ (cellsAt g.E H s m).2 vs := by
  unfold cellsAt at h ⊢
  split at h
  · rename_i i o
    simp only [R] at hv
    obtain ⟨b, c, h1, h2⟩ := hv
    split at h
    · rename_i cs t hg
      have hb := hs.blk i _ (hget_some (H := H) (i := i) (by rw [hg]; rfl))
      rw [hg] at hb
      obtain ⟨b', c', a, e1, e2, e3⟩ := hb
      rw [h1] at e1; cases e1
      refine ⟨b, o, (a.toList.drop o).take m, h2, ?_, ?_, RL.take m (RL.drop o e3)⟩
      · have := e3.length
        simp at h ⊢
        simp at this
        omega
      · intro j x hx
        rw [cell_of w b (o + j) a t _ e2]
        rw [List.getElem?_take] at hx
        split at hx
        · simpa using hx
        · cases hx
    · exact h.elim
  · rename_i i sz k j
    simp only [R] at hv
    obtain ⟨b, c, h1, h2⟩ := hv
    split at h
    · rename_i n sz' f t hg
      obtain ⟨hk, rfl, hj, hl⟩ := h
      have hb := hs.blk i _ (hget_some (H := H) (i := i) (by rw [hg]; rfl))
      rw [hg] at hb
      rcases hb with ⟨e0, _⟩ | ⟨b', c', a, e1, e2, e3, e4, e5⟩
      · omega
      rw [h1] at e1; cases e1
      -- the cells, one by one
      have key : ∀ (l : List SV) (q : Nat), (∀ x s, l[x]? = some s → ∃ y, a[c.2 + k * sz' + q + x]? = some y ∧ R ρ s y) →
          ∃ vs : List Value, vs.length = l.length ∧ (∀ x y, vs[x]? = some y → a[c.2 + k * sz' + q + x]? = some y) ∧ RL ρ l vs := by
        intro l
        induction l with
        | nil => intro q _; exact ⟨[], rfl, by simp, by simp [RL]⟩
        | cons s l ih =>
          intro q hq
          obtain ⟨vs, i1, i2, i3⟩ := ih (q + 1) (fun x s hx => by
            have := hq (x + 1) s (by simpa using hx)
            rwa [show c.2 + k * sz' + q + (x + 1) = c.2 + k * sz' + (q + 1) + x by omega] at this)
          obtain ⟨y, hy, hr⟩ := hq 0 s (by simp)
          refine ⟨y :: vs, by simp [i1], ?_, by simp only [RL]; exact ⟨hr, i3⟩⟩
          intro x z hz
          cases x with
          | zero => simp at hz; subst hz; exact hy
          | succ x =>
            have := i2 x z (by simpa using hz)
            rwa [show c.2 + k * sz' + (q + 1) + x = c.2 + k * sz' + q + (x + 1) by omega] at this
      obtain ⟨vs, i1, i2, i3⟩ := key (((f k).drop j).take m) j (by
        intro x s hx
        rw [List.getElem?_take] at hx
        split at hx
        · rename_i hxm
          rw [List.getElem?_drop] at hx
          obtain ⟨y, hy, hr⟩ := e5 k (j + x) s hk (by omega) hx
          exact ⟨y, by rwa [show c.2 + k * sz' + j + x = c.2 + k * sz' + (j + x) by omega], hr⟩
        · cases hx)
      refine ⟨b, c.2 + k * sz' + j, vs, h2, ?_, ?_, i3⟩
      · rw [i1]; simp; omega
      · intro x y hy
        rw [cell_of w b _ a t _ e2]
        exact i2 x y hy
    · exact h.elim
  · rename_i b o
    simp only [R] at hv
    obtain ⟨vs, i1, i2, i3⟩ := roCells_spec hs b m o h
    exact ⟨b, o, vs, hv, i1, i2, i3⟩
  · exact h.elim

def hd1 : List SV → SV
  | [x] => x
  | _ => .junk

def sLoad (P : Program) (E : Addr → Option Value) (H : List AB) (t : TypeId) (a : SV) : Res :=
  match tagg P t with
  | true => ⟨tknown P t = true ∧ (cellsAt E H a (tsize P t)).1, .agg (cellsAt E H a (tsize P t)).2, H⟩
  | false => ⟨tknown P t = true ∧ (cellsAt E H a 1).1, hd1 (cellsAt E H a 1).2, H⟩

theorem sLoad_sound {P : Program} {g : G} {ρ : Env} {H : List AB} {w : World} (hs : Sat g ρ H w) {t : TypeId} {s : SV} {v : Value} (hv : R ρ s v) (h : (sLoad P g.E H t s).pre) :
    (sLoad P g.E H t s).heap = H ∧ ∃ x, (∀ w' : World, w'.heap = w.heap → (Instr.loadAt t v).run P w' = .ok x w') ∧ R ρ (sLoad P g.E H t s).val x := by
  have cellw : ∀ (w' : World), w'.heap = w.heap → ∀ a, w'.cell? a = w.cell? a := fun w' e a => by unfold World.cell?; rw [e]
  unfold sLoad at h ⊢
  cases ht : tagg P t with
  | true =>
    rw [ht] at h
    obtain ⟨b, o, vs, rfl, h1, h2, h3⟩ := cellsAt_spec hs hv _ h.2
    refine ⟨rfl, .agg vs.toArray, fun w' e => ?_, by simp only [R]; exact ⟨_, rfl, by simpa using h3⟩⟩
    have hl := run_loadCells_list (P := P) w' ⟨b, o, none⟩ vs (fun j x hx => by rw [addr_add, cellw w' e]; exact h2 j x hx)
    rw [h1] at hl
    simp [Instr.loadAt, Instr.sureAddr, loadVar, run_isAgg' h.1, run_sizeOf' h.1, ht, hl]
  | false =>
    rw [ht] at h
    obtain ⟨b, o, vs, rfl, h1, h2, h3⟩ := cellsAt_spec hs hv _ h.2
    match vs, h1 with
    | [x], _ =>
      have h4 := h2 0 x (by simp)
      refine ⟨rfl, x, fun w' e => ?_, ?_⟩
      · have h5 : w'.cell? ⟨b, o, none⟩ = some x := by rw [cellw w' e]; simpa using h4
        simp [Instr.loadAt, Instr.sureAddr, loadVar, run_isAgg' h.1, ht, h5]
      · generalize (cellsAt g.E H s 1).2 = l at h3
        match l, h3 with
        | [y], h3 =>
          simp only [RL] at h3
          exact h3.1

/-! ### Stores -/
def vcells : SV → List SV
  | .agg cs => cs
  | v => [v]

def one : SV → Bool
  | .raw v => v.oneCell'
  | .ptr _ _ | .pel _ _ _ _ | .lst _ _ _ _ | .mapv _ | .fn _ _ _ => true
  | _ => false

theorem one_spec {ρ : Env} {s : SV} {v : Value} (h : one s = true) (hv : R ρ s v) : v.oneCell' = true ∧ v.cells = #[v] ∧ vcells s = [s] := by
  cases s <;> simp only [one, R, Bool.false_eq_true] at h hv
  · subst hv; cases v <;> simp_all [Value.oneCell', Value.cells, vcells]
  · obtain ⟨b, c, _, rfl⟩ := hv; exact ⟨rfl, rfl, rfl⟩
  · obtain ⟨b, c, _, rfl⟩ := hv; exact ⟨rfl, rfl, rfl⟩
  · rcases hv with ⟨_, rfl⟩ | ⟨b, c, a, _, _, rfl, _⟩ <;> exact ⟨rfl, rfl, rfl⟩
  · obtain ⟨b, c, _, rfl⟩ := hv; exact ⟨rfl, rfl, rfl⟩
  · obtain ⟨b, c, rfl, _⟩ := hv; exact ⟨rfl, rfl, rfl⟩

theorem vcells_spec {ρ : Env} {s : SV} {v : Value} (h : ((vcells s).all one) = true) (hv : R ρ s v) : RL ρ (vcells s) v.cells.toList ∧ ∀ u ∈ v.cells.toList, u.oneCell' = true := by
  have all1 : ∀ (l : List SV) (r : List Value), RL ρ l r → l.all one = true → ∀ u ∈ r, u.oneCell' = true := by
    intro l
    induction l with
    | nil => intro r hr _; cases r with
      | nil => simp
      | cons _ _ => simp only [RL] at hr
    | cons s l ih => intro r hr ha; cases r with
      | nil => simp only [RL] at hr
      | cons x r =>
        simp only [RL] at hr
        simp only [List.all_cons, Bool.and_eq_true] at ha
        intro u hu
        rcases List.mem_cons.1 hu with rfl | hu
        · exact (one_spec ha.1 hr.1).1
        · exact ih r hr.2 ha.2 u hu
  cases s with
  | agg cs =>
    simp only [R] at hv
    obtain ⟨a, rfl, h2⟩ := hv
    exact ⟨h2, all1 _ _ h2 h⟩
  | _ =>
    simp only [vcells, List.all_cons, List.all_nil, Bool.and_true] at h
    obtain ⟨h1, h2, _⟩ := one_spec h hv
    rw [h2]
    exact ⟨by simp only [vcells, RL]; exact ⟨hv, trivial⟩, by simpa using h1⟩

def splice (cs : List SV) (o : Nat) (vs : List SV) : List SV := cs.take o ++ vs ++ cs.drop (o + vs.length)

def sStore (P : Program) (H : List AB) (t : TypeId) (a v : SV) : Res :=
  match a with
  | .ptr i o => match hget H i with
    | .cells cs ty => ⟨tknown P t = true ∧ (vcells v).all one = true ∧ (vcells v).length = tsize P t ∧ o + (vcells v).length ≤ cs.length, .junk, hset H i (.cells (splice cs o (vcells v)) ty)⟩
    | _ => no
  | .pel i sz k j => match hget H i with
    | .lst n sz' f ty => ⟨tknown P t = true ∧ (vcells v).all one = true ∧ (vcells v).length = tsize P t ∧ k < n ∧ sz' = sz ∧ j + (vcells v).length ≤ sz ∧ (f k).length = sz,
        .junk, hset H i (.lst n sz' (fun k' => if k' = k then splice (f k) j (vcells v) else f k') ty)⟩
    | _ => no
  | _ => no

theorem splice_get {α : Type} (l vs : List α) (o : Nat) (h : o + vs.length ≤ l.length) (x : Nat) :
    (l.take o ++ vs ++ l.drop (o + vs.length))[x]? = if x < o then l[x]? else if x < o + vs.length then vs[x - o]? else l[x]? := by
  by_cases h1 : x < o
  · rw [if_pos h1, List.append_assoc, List.getElem?_append_left (by simp; omega), List.getElem?_take, if_pos h1]
  · rw [if_neg h1]
    by_cases h2 : x < o + vs.length
    · rw [if_pos h2, List.append_assoc, List.getElem?_append_right (by simp; omega), List.getElem?_append_left (by simp; omega)]
      congr 1; simp; omega
    · rw [if_neg h2, List.getElem?_append_right (by simp; omega), List.getElem?_drop]
      congr 1; simp; omega

theorem sStore_sound {P : Program} {g : G} {ρ : Env} {H : List AB} {w : World} (hs : Sat g ρ H w) {t : TypeId} {s u : SV} {vs vu : Value} (ha : R ρ s vs) (hv : R ρ u vu) (h : (sStore P H t s u).pre) :
    ∃ w', (Instr.storeAt t vs vu).run P w = .ok () w' ∧ Sat g ρ (sStore P H t s u).heap w' := by
  -- the store itself
  have go : ∀ (b o : Nat) (a : Array Value) (ty : TypeId), w.heap[b]? = some (.cells a ty (0, 0)) → tknown P t = true → (∀ x ∈ vu.cells.toList, x.oneCell' = true) → vu.cells.size = tsize P t → o + vu.cells.toList.length ≤ a.size →
      (Instr.storeAt t (.pointer (some ⟨b, o, none⟩)) vu).run P w = .ok () (w.setRow b (a.toList.take o ++ vu.cells.toList ++ a.toList.drop (o + vu.cells.toList.length)).toArray) := by
    intro b o a ty hb hk h1 hz hl
    have hst := run_storeCells_at (P := P) b o ty vu.cells.toList 0 a w hb (by simpa using hl) h1
    simp only [Nat.add_zero] at hst
    simp [Instr.storeAt, Instr.sureAddr, storeVar, run_sizeOf' hk, hz, hst]
  unfold sStore at h ⊢
  split at h
  · rename_i i o
    simp only [R] at ha
    obtain ⟨b, c, h1, rfl⟩ := ha
    split at h
    · rename_i cs ty hg
      obtain ⟨hk, hall, hz, hl⟩ := h
      have hi := hget_some (H := H) (i := i) (by rw [hg]; rfl)
      have hb := hs.blk i _ hi
      rw [hg] at hb hi
      obtain ⟨b', c', a, e1, e2, e3⟩ := hb
      rw [h1] at e1; cases e1
      obtain ⟨r1, r2⟩ := vcells_spec hall hv
      have hl1 := r1.length
      have hl2 := e3.length
      refine ⟨_, go b o a ty e2 hk r2 (by simp at hl1; omega) (by simp at hl2; omega), ?_⟩
      simp only [hset_eq]
      refine hs.upd hi rfl h1 rfl rfl rfl rfl (by simp) (fun k hne => setRow_other w b k _ hne) ?_
      refine ⟨b, c, _, h1, setRow_heap w b a _ ty _ e2, ?_⟩
      unfold splice
      rw [hl1]
      exact (RL.append (RL.append (RL.take o e3) r1) (RL.drop _ e3))
    · exact h.elim
  · rename_i i sz k j
    simp only [R] at ha
    obtain ⟨b, c, h1, rfl⟩ := ha
    split at h
    · rename_i n sz' f ty hg
      obtain ⟨hk, hall, hz, hkn, rfl, hj, hf⟩ := h
      have hi := hget_some (H := H) (i := i) (by rw [hg]; rfl)
      have hb := hs.blk i _ hi
      rw [hg] at hb hi
      rcases hb with ⟨e0, _⟩ | ⟨b', c', a, e1, e2, e3, e4, e5⟩
      · omega
      rw [h1] at e1; cases e1
      obtain ⟨r1, r2⟩ := vcells_spec hall hv
      have hl1 := r1.length
      have hks : k * sz' + sz' ≤ c.1 * sz' := by
        have := Nat.mul_le_mul_right sz' (show k + 1 ≤ c.1 by omega)
        rwa [Nat.succ_mul] at this
      have hfit : c.2 + k * sz' + j + vu.cells.toList.length ≤ a.size := by rw [e4, ← hl1]; omega
      refine ⟨_, go b (c.2 + k * sz' + j) a ty e2 hk r2 (by simp at hl1; omega) hfit, ?_⟩
      simp only [hset_eq]
      refine hs.upd hi rfl h1 rfl rfl rfl rfl (by simp) (fun k hne => setRow_other w b k _ hne) ?_
      refine .inr ⟨b, c, _, h1, setRow_heap w b a _ ty _ e2, e3, ?_, ?_⟩
      · simp only [List.size_toArray, List.length_append, List.length_take, List.length_drop, Array.length_toList]
        simp only [Array.length_toList] at hfit
        omega
      · intro k' j' s' hk' hj' hf'
        rw [List.getElem?_toArray, splice_get _ _ _ (by simpa using hfit)]
        by_cases hkk : k' = k
        · subst hkk
          simp only [if_true] at hf'
          unfold splice at hf'
          rw [splice_get _ _ _ (by omega)] at hf'
          by_cases q1 : j' < j
          · rw [if_pos q1] at hf'
            rw [if_pos (by omega)]
            obtain ⟨x, hx, hr⟩ := e5 k' j' s' hk' hj' hf'
            exact ⟨x, by simpa using hx, hr⟩
          · rw [if_neg q1] at hf'
            by_cases q2 : j' < j + (vcells u).length
            · rw [if_pos q2] at hf'
              rw [if_neg (by omega), if_pos (by omega)]
              obtain ⟨x, hx, hr⟩ := r1.get _ _ hf'
              exact ⟨x, by rwa [show c.2 + k' * sz' + j' - (c.2 + k' * sz' + j) = j' - j by omega], hr⟩
            · rw [if_neg q2] at hf'
              rw [if_neg (by omega), if_neg (by omega)]
              obtain ⟨x, hx, hr⟩ := e5 k' j' s' hk' hj' hf'
              exact ⟨x, by simpa using hx, hr⟩
        · simp only [if_neg hkk] at hf'
          obtain ⟨x, hx, hr⟩ := e5 k' j' s' hk' hj' hf'
          refine ⟨x, ?_, hr⟩
          rcases Nat.lt_or_ge k' k with q | q
          · have hm : k' * sz' + sz' ≤ k * sz' := by
              have := Nat.mul_le_mul_right sz' (show k' + 1 ≤ k by omega)
              rwa [Nat.succ_mul] at this
            rw [if_pos (by omega)]
            simpa using hx
          · have hm : k * sz' + sz' ≤ k' * sz' := by
              have := Nat.mul_le_mul_right sz' (show k + 1 ≤ k' by omega)
              rwa [Nat.succ_mul] at this
            rw [if_neg (by omega), if_neg (by omega)]
            simpa using hx
    · exact h.elim
  · exact h.elim

end Go.Proofs.Ytmnpnnegnlhemaa.Eng
