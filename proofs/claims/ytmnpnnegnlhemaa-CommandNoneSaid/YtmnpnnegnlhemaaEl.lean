/- The engine's regions whose order is drawn: the operations that only compute, those that read, those that turn the heap. Plain lemmas; no statement of the seat. -/
import Derived.Test.YtmnpnnegnlhemaaEk
import Derived.Orders
namespace Go.Proofs.Ytmnpnnegnlhemaa.Eng
open Go

/-- Operations that don't look at the heap. -/
def pureOp : Op → Bool
  | .move _ | .assign _ | .pick _ _ _ | .nilCheck _ | .binOp _ _ _ _ _ | .unOp _ _ _ | .convert _ _ _ | .makeFunc _ _ _ | .slice _ _ _ _ _ | .fieldAddr _ _ _ | .field _ _ _ | .indexAddr _ _ _ | .index _ _ _ | .extract _ _ | .build _ _ => true
  | .call { callee := .builtin .len, .. } | .call { callee := .builtin .max, .. } | .call { callee := .builtin .min, .. } => true
  | _ => false

def readOp : Op → Bool
  | .load _ _ | .lookup _ _ _ _ => true
  | _ => false

/-- Operations that make a block. -/
def allocOp : Op → Bool
  | .alloc _ | .box _ _ | .buildSlice _ _ _ | .makeSlice _ _ _ | .makeMap _ _ => true
  | _ => false

def effOp (o : Op) : Bool := !(pureOp o) && !(readOp o)

def Keeps (f : List AB → Res) : Prop := ∀ H H', ((f H').pre ↔ (f H).pre) ∧ (f H').val = (f H).val ∧ ((f H).pre → (f H).heap = H)

theorem keeps_no : Keeps (fun _ => no) := fun _ _ => ⟨Iff.rfl, rfl, fun h => h.elim⟩

theorem keeps_mk (p : Prop) (v : SV) : Keeps (fun H => ⟨p, v, H⟩) := fun _ _ => ⟨Iff.rfl, rfl, fun _ => rfl⟩

section
variable (P : Program) (E : Addr → Option Value) (Γ : Con) (q : Option Nat)

theorem keeps_bin (op : BinOp) (t : TypeId) (x y : SV) : Keeps (fun H => sBin P H op t x y) := by
  unfold sBin
  split
  · exact keeps_mk _ _
  · cases op <;> first | exact keeps_no | exact keeps_mk _ _
  · cases op <;> first | exact keeps_no | exact keeps_mk _ _
  · cases op <;> first | exact keeps_no | exact keeps_mk _ _
  · cases op <;> first | exact keeps_no | exact keeps_mk _ _
  · exact keeps_no

theorem keeps_un (op : UnOp) (x : SV) : Keeps (fun H => sUn H op x) := by
  unfold sUn
  split
  · cases op <;> first | exact keeps_no | exact keeps_mk _ _
  · cases op <;> first | exact keeps_no | exact keeps_mk _ _
  · exact keeps_no

theorem keeps_conv (s d : TypeId) (x : SV) : Keeps (fun H => sConv P H s d x) := by
  unfold sConv
  split
  · split
    · exact keeps_mk _ _
    · exact keeps_no
  · exact keeps_no

theorem keeps_nil (x : SV) : Keeps (fun H => sNil H x) := by
  unfold sNil
  split <;> first | exact keeps_mk _ _ | exact keeps_no | skip
  split <;> first | exact keeps_mk _ _ | exact keeps_no

theorem keeps_pick (c x y : SV) : Keeps (fun H => sPick H c x y) := by
  unfold sPick
  split <;> first | exact keeps_mk _ _ | exact keeps_no

theorem keeps_extract (i : Nat) (x : SV) : Keeps (fun H => sExtract H i x) := by
  unfold sExtract
  split
  · split <;> first | exact keeps_mk _ _ | exact keeps_no
  · exact keeps_no

theorem keeps_max (l : List SV) : Keeps (fun H => sMax H l) := by
  unfold sMax
  split <;> first | exact keeps_mk _ _ | exact keeps_no
theorem keeps_min (l : List SV) : Keeps (fun H => sMin H l) := by
  unfold sMin
  split <;> first | exact keeps_mk _ _ | exact keeps_no

theorem keeps_at (t : TypeId) (x i : SV) : Keeps (fun H => sAt P H t x i) := by
  unfold sAt
  split <;> first | exact keeps_mk _ _ | exact keeps_no

theorem keeps_field (t : TypeId) (f : Nat) (x : SV) : Keeps (fun H => sField P H t f x) := by
  unfold sField
  split
  · split <;> first | exact keeps_mk _ _ | exact keeps_no
  · exact keeps_no

theorem keeps_part (t : TypeId) (f : Nat) (x : SV) : Keeps (fun H => sPart P H t f x) := by
  unfold sPart
  split
  · split
    · split <;> exact keeps_mk _ _
    · exact keeps_no
  · exact keeps_no

theorem keeps_index (t : TypeId) (x i : SV) : Keeps (fun H => sIndex P H t x i) := by
  unfold sIndex
  split
  · split
    · split <;> first | exact keeps_mk _ _ | exact keeps_no
    · split <;> first | exact keeps_mk _ _ | exact keeps_no
    · split <;> first | exact keeps_mk _ _ | exact keeps_no
    · exact keeps_no
  · exact keeps_no

theorem keeps_len (t : TypeId) (x : SV) : Keeps (fun H => sLen P H t x) := by
  unfold sLen
  split
  · split <;> first | exact keeps_mk _ _ | exact keeps_no
  · exact keeps_no

theorem keeps_slice (t : TypeId) (x lo : SV) : Keeps (fun H => sSlice P H t x lo) := by
  unfold sSlice
  split
  · split
    · split <;> first | exact keeps_mk _ _ | exact keeps_no
    · exact keeps_no
  · exact keeps_no

theorem keeps_builtin (b : Builtin) (ts : List TypeId) (xs : List SV) (hb : b = .len ∨ b = .max ∨ b = .min) : Keeps (fun H => sBuiltin P E H b ts xs) := by
  rcases hb with rfl | rfl | rfl
  · unfold sBuiltin
    split
    · exact keeps_len P _ _
    · rename_i h1; cases h1
    · rename_i h1; cases h1
    · rename_i h1; cases h1
    · exact keeps_no
  · unfold sBuiltin
    exact keeps_max _
  · unfold sBuiltin
    exact keeps_min _

theorem keeps_build (t : TypeId) (ps : List (Nat × SV)) : Keeps (fun H => sBuild P H t ps) := by
  unfold sBuild
  split <;> first | exact keeps_mk _ _ | exact keeps_no

theorem keeps_sop {o : Op} (h : pureOp o = true) (ev : Operand → SV) : Keeps (fun H => sop P E Γ q H ev o) := by
  cases o <;> simp only [pureOp, Bool.false_eq_true] at h <;> simp only [sop]
  case move x => exact keeps_mk _ _
  case assign x => exact keeps_mk _ _
  case pick => exact keeps_pick _ _ _
  case nilCheck => exact keeps_nil _
  case binOp => exact keeps_bin P _ _ _ _
  case unOp => exact keeps_un _ _
  case convert => exact keeps_conv P _ _ _
  case makeFunc => exact keeps_mk _ _
  case slice t x lo hi mx =>
    cases lo <;> cases hi <;> cases mx <;> simp only <;> first | exact keeps_no | exact keeps_slice P _ _ _
  case fieldAddr => exact keeps_field P _ _ _
  case field => exact keeps_part P _ _ _
  case indexAddr => exact keeps_index P _ _ _
  case index => exact keeps_at P _ _ _
  case extract => exact keeps_extract _ _
  case build => exact keeps_build P _ _
  case call c =>
    obtain ⟨callee, args, ts⟩ := c
    cases callee with
    | value f => simp at h
    | invoke r m => simp at h
    | builtin b =>
      simp only
      cases b <;> simp at h <;> exact keeps_builtin P E _ _ _ (by simp)

theorem load_heap (H : List AB) (t : TypeId) (x : SV) : (sLoad P E H t x).heap = H := by unfold sLoad; split <;> rfl

theorem lookup_heap (H : List AB) (t : TypeId) (m k : SV) : (sLookup P H t m k).pre → (sLookup P H t m k).heap = H := by
  unfold sLookup
  repeat' split
  all_goals first | (intro _; rfl) | (intro h; exact h.elim)

theorem read_heap {o : Op} (h : effOp o = false) (H : List AB) (ev : Operand → SV) (hp : (sop P E Γ q H ev o).pre) : (sop P E Γ q H ev o).heap = H := by
  cases hpo : pureOp o with
  | true => exact (keeps_sop P E Γ q hpo ev H H).2.2 hp
  | false =>
    have hr : readOp o = true := by simpa [effOp, hpo] using h
    cases o <;> simp only [readOp, Bool.false_eq_true] at hr <;> simp only [sop] at hp ⊢
    case load t x => exact load_heap P E H t _
    case lookup t m k ok =>
      cases ok with
      | false => exact hp.elim
      | true => exact lookup_heap P H t _ _ hp

/-- The operands that an operation looks at. -/
def sopOps : Op → List Operand
  | .pick c a b => [c, a, b]
  | o => opNeeds o

theorem unw_congr {ev ev' : Operand → SV} {x : Operand} (h : ev x = ev' x) : unw ev x = unw ev' x := by unfold unw; rw [h]

theorem map_unw {ev ev' : Operand → SV} : ∀ {l : List Operand}, (∀ x ∈ l, ev x = ev' x) → l.map (unw ev) = l.map (unw ev')
  | [], _ => rfl
  | x :: l, h => by
    simp only [List.map_cons]
    rw [unw_congr (h x (by simp)), map_unw (fun y hy => h y (by simp [hy]))]

theorem map_unw2 {ev ev' : Operand → SV} : ∀ {l : List (Nat × Operand)}, (∀ x ∈ l.map (·.2), ev x = ev' x) → l.map (fun x => (x.1, unw ev x.2)) = l.map (fun x => (x.1, unw ev' x.2))
  | [], _ => rfl
  | x :: l, h => by
    simp only [List.map_cons]
    rw [unw_congr (h x.2 (by simp)), map_unw2 (fun y hy => h y (by simp at hy ⊢; right; exact hy))]

theorem sop_congr {ev ev' : Operand → SV} (H : List AB) (o : Op) (h : ∀ x ∈ sopOps o, ev x = ev' x) : sop P E Γ q H ev o = sop P E Γ q H ev' o := by
  cases o
  case build t ps => simp only [sop]; rw [map_unw2 (by simpa [sopOps, opNeeds] using h)]
  case buildSlice t n ps => simp only [sop]; rw [map_unw2 (by simpa [sopOps, opNeeds] using h)]
  case makeFunc f a b =>
    simp only [sop]
    rw [map_unw (l := a.toList) (fun x hx => h x (by simp only [sopOps, opNeeds, List.mem_append]; exact .inl hx)), map_unw (l := b.toList) (fun x hx => h x (by simp only [sopOps, opNeeds, List.mem_append]; exact .inr hx))]
  case call c =>
    obtain ⟨callee, args, ts⟩ := c
    cases callee with
    | value f =>
      simp only [sop]
      rw [unw_congr (h f (by simp [sopOps, opNeeds])), map_unw (l := args.toList) (fun x hx => h x (by simp only [sopOps, opNeeds, List.mem_cons]; exact .inr hx))]
    | invoke r m => simp only [sop]
    | builtin b =>
      simp only [sop]
      rw [map_unw (l := args.toList) (fun x hx => h x (by simp only [sopOps, opNeeds]; exact hx))]
  case pick c x y =>
    simp only [sop]
    rw [unw_congr (h c (by simp [sopOps])), h x (by simp [sopOps]), h y (by simp [sopOps])]
  case slice t x lo hi mx =>
    cases lo <;> cases hi <;> cases mx <;> simp only [sop]
    rw [unw_congr (h x (by simp [sopOps, opNeeds])), unw_congr (h _ (by simp [sopOps, opNeeds]))]
  case makeMap t r => cases r <;> simp only [sop]
  case lookup t m k ok =>
    cases ok <;> simp only [sop]
    rw [unw_congr (h m (by simp [sopOps, opNeeds])), unw_congr (h k (by simp [sopOps, opNeeds]))]
  case move x => simp only [sop]; rw [unw_congr (h x (by simp [sopOps, opNeeds]))]
  case assign x => simp only [sop]; rw [unw_congr (h x (by simp [sopOps, opNeeds]))]
  case box t x => simp only [sop]; rw [unw_congr (h x (by simp [sopOps, opNeeds]))]
  case load t x => simp only [sop]; rw [unw_congr (h x (by simp [sopOps, opNeeds]))]
  case nilCheck x => simp only [sop]; rw [unw_congr (h x (by simp [sopOps, opNeeds]))]
  case unOp u t x => simp only [sop]; rw [unw_congr (h x (by simp [sopOps, opNeeds]))]
  case convert s d x => simp only [sop]; rw [unw_congr (h x (by simp [sopOps, opNeeds]))]
  case fieldAddr t x f => simp only [sop]; rw [unw_congr (h x (by simp [sopOps, opNeeds]))]
  case field t x f => simp only [sop]; rw [unw_congr (h x (by simp [sopOps, opNeeds]))]
  case extract x i => simp only [sop]; rw [unw_congr (h x (by simp [sopOps, opNeeds]))]
  case store t x y => simp only [sop]; rw [unw_congr (h x (by simp [sopOps, opNeeds])), unw_congr (h y (by simp [sopOps, opNeeds]))]
  case binOp u t x y t2 => simp only [sop]; rw [unw_congr (h x (by simp [sopOps, opNeeds])), unw_congr (h y (by simp [sopOps, opNeeds]))]
  case makeSlice t x y => simp only [sop]; rw [unw_congr (h x (by simp [sopOps, opNeeds])), unw_congr (h y (by simp [sopOps, opNeeds]))]
  case indexAddr t x y => simp only [sop]; rw [unw_congr (h x (by simp [sopOps, opNeeds])), unw_congr (h y (by simp [sopOps, opNeeds]))]
  case index t x y => simp only [sop]; rw [unw_congr (h x (by simp [sopOps, opNeeds])), unw_congr (h y (by simp [sopOps, opNeeds]))]
  case insert t x y z => simp only [sop]; rw [unw_congr (h x (by simp [sopOps, opNeeds])), unw_congr (h y (by simp [sopOps, opNeeds])), unw_congr (h z (by simp [sopOps, opNeeds]))]
  all_goals rfl
end

theorem needs_congr {ev ev' : Operand → SV} (g : Bool) : ∀ {l : List Operand}, (∀ x ∈ l, ev x = ev' x) → needs ev g l = needs ev' g l
  | [], _ => rfl
  | x :: l, h => by
    simp only [needs]
    rw [h x (by simp), needs_congr g (fun y hy => h y (by simp [hy]))]

theorem opNeeds_sub (o : Op) : ∀ x ∈ opNeeds o, x ∈ sopOps o := by
  intro x hx
  cases o <;> first | exact hx | (simp [sopOps, opNeeds] at hx ⊢; simp [hx])

theorem stepR_congr (P : Program) (E : Addr → Option Value) (Γ : Con) (ops : List Oper) (q : Option Nat) (o : Oper) {τ τ' : List SV} (H : List AB)
    (h : ∀ x ∈ sopOps o.op, sev τ x = sev τ' x) (hg : ∀ j want, o.guard = some (j, want) → gslot τ (gdst (onth ops j)) = gslot τ' (gdst (onth ops j))) :
    stepR P E Γ ops q o τ H = stepR P E Γ ops q o τ' H := by
  have h1 := sop_congr P E Γ q H o.op h
  have h2 : ∀ g, needs (sev τ) g (opNeeds o.op) = needs (sev τ') g (opNeeds o.op) := fun g => needs_congr g (fun x hx => h x (opNeeds_sub _ x hx))
  unfold stepR
  cases hgd : o.guard with
  | none => simp only [h1, h2]
  | some jw =>
    obtain ⟨j, want⟩ := jw
    simp only [hg j want hgd]
    unfold r1
    split
    simp only [h1, h2]

theorem stepR_keeps (P : Program) (E : Addr → Option Value) (Γ : Con) (ops : List Oper) (q : Option Nat) (o : Oper) (τ : List SV) (ho : pureOp o.op = true) (H H' : List AB) :
    ((stepR P E Γ ops q o τ H').pre ↔ (stepR P E Γ ops q o τ H).pre) ∧ (stepR P E Γ ops q o τ H').val = (stepR P E Γ ops q o τ H).val := by
  have k := keeps_sop P E Γ q ho (sev τ) H H'
  unfold stepR
  cases hgd : o.guard with
  | none => exact ⟨and_congr Iff.rfl k.1, k.2.1⟩
  | some jw =>
    obtain ⟨j, want⟩ := jw
    simp only [r1, r2]
    exact ⟨and_congr Iff.rfl (imp_congr Iff.rfl k.1), by rw [k.2.1]⟩

theorem stepR_heap (P : Program) (E : Addr → Option Value) (Γ : Con) (ops : List Oper) (q : Option Nat) (o : Oper) (τ : List SV) (ho : effOp o.op = false) (H : List AB) (h : (stepR P E Γ ops q o τ H).pre) : (stepR P E Γ ops q o τ H).heap = H := by
  unfold stepR at h ⊢
  cases hgd : o.guard with
  | none =>
    rw [hgd] at h
    exact read_heap P E Γ q ho H _ h.2
  | some jw =>
    obtain ⟨j, want⟩ := jw
    rw [hgd] at h
    simp only [r1, r2] at h ⊢
    by_cases hg : (gb want (gslot τ (gdst (onth ops j)))).2 = true
    · rw [if_pos hg]; exact read_heap P E Γ q ho H _ (h.2 hg)
    · rw [if_neg hg]

end Go.Proofs.Ytmnpnnegnlhemaa.Eng
