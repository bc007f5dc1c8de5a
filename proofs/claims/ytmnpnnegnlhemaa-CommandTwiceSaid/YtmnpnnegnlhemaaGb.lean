/- Lifting: what the engine shows of a law gives what the given row asks. Plain lemmas; no statement of the seat. -/
import Derived.Orders
import Derived.OrdersIn
import Derived.TacticsIn
import Derived.RangeFuncLeaves
import Derived.RangeFuncRecord
import Derived.Below
import Derived.ProofKit
import Derived.OpenShut
import Derived.OpenVars
import Derived.Carry
import Derived.SizedLaws
import Derived.Deep.Slices
import Derived.Test.YtmnpnnegnlhemaaGa
namespace Go.Proofs.Ytmnpnnegnlhemaa.Eng
open Go

/-- Operations that don't look at the heap. -/
def pureOp : Op → Bool
  | .move _ | .assign _ | .pick _ _ _ | .nilCheck _ | .binOp _ _ _ _ _ | .unOp _ _ _ | .convert _ _ _ | .makeFunc _ _ _ | .slice _ _ _ _ _ | .fieldAddr _ _ _ | .field _ _ _ | .indexAddr _ _ _ | .index _ _ _ | .extract _ _ | .build _ _ => true
  | .call { callee := .builtin .len, .. } | .call { callee := .builtin .max, .. } | .call { callee := .builtin .min, .. } => true
  | _ => false

def readOp : Op → Bool
  | .load _ _ | .lookup _ _ _ _ => true
  | _ => false

/-- Operations that make a block. -/
def allocOp : Op → Bool
  | .alloc _ | .box _ _ | .buildSlice _ _ _ | .makeSlice _ _ _ | .makeMap _ _ => true
  | _ => false

def effOp (o : Op) : Bool := !(pureOp o) && !(readOp o)

def Keeps (f : List AB → Res) : Prop := ∀ H H', ((f H').pre ↔ (f H).pre) ∧ (f H').val = (f H).val ∧ ((f H).pre → (f H).heap = H)

theorem keeps_no : Keeps (fun _ => no) := fun _ _ => ⟨Iff.rfl, rfl, fun h => h.elim⟩

theorem keeps_mk (p : Prop) (v : SV) : Keeps (fun H => ⟨p, v, H⟩) := fun _ _ => ⟨Iff.rfl, rfl, fun _ => rfl⟩

section
variable (P : Program) (E : Addr → Option Value) (Γ : Con) (q : Option Nat)

theorem keeps_bin (op : BinOp) (t : TypeId) (x y : SV) : Keeps (fun H => sBin P H op t x y) := by
  unfold sBin
  split
  · exact keeps_mk _ _
  · cases op <;> first | exact keeps_no | exact keeps_mk _ _
  · cases op <;> first | exact keeps_no | exact keeps_mk _ _
  · cases op <;> first | exact keeps_no | exact keeps_mk _ _
  · cases op <;> first | exact keeps_no | exact keeps_mk _ _
  · exact keeps_no

theorem keeps_un (op : UnOp) (x : SV) : Keeps (fun H => sUn H op x) := by
  unfold sUn
  split
  · cases op <;> first | exact keeps_no | exact keeps_mk _ _
  · cases op <;> first | exact keeps_no | exact keeps_mk _ _
  · exact keeps_no

theorem keeps_conv (s d : TypeId) (x : SV) : Keeps (fun H => sConv P H s d x) := by
  unfold sConv
  split
  · split
    · exact keeps_mk _ _
    · exact keeps_no
  · exact keeps_no

theorem keeps_nil (x : SV) : Keeps (fun H => sNil H x) := by
  unfold sNil
  split <;> first | exact keeps_mk _ _ | exact keeps_no | skip
  split <;> first | exact keeps_mk _ _ | exact keeps_no

theorem keeps_pick (c x y : SV) : Keeps (fun H => sPick H c x y) := by
  unfold sPick
  split
  · exact keeps_mk _ _
  · exact keeps_no

theorem keeps_extract (i : Nat) (x : SV) : Keeps (fun H => sExtract H i x) := by
  unfold sExtract
  split
  · split <;> first | exact keeps_mk _ _ | exact keeps_no
  · exact keeps_no

theorem keeps_max (l : List SV) : Keeps (fun H => sMax H l) := by
  unfold sMax
  split <;> first | exact keeps_mk _ _ | exact keeps_no
theorem keeps_min (l : List SV) : Keeps (fun H => sMin H l) := by
  unfold sMin
  split <;> first | exact keeps_mk _ _ | exact keeps_no

theorem keeps_at (t : TypeId) (x i : SV) : Keeps (fun H => sAt P H t x i) := by
  unfold sAt
  split <;> first | exact keeps_mk _ _ | exact keeps_no

theorem keeps_field (t : TypeId) (f : Nat) (x : SV) : Keeps (fun H => sField P H t f x) := by
  unfold sField
  split
  · split <;> first | exact keeps_mk _ _ | exact keeps_no
  · exact keeps_no

theorem keeps_part (t : TypeId) (f : Nat) (x : SV) : Keeps (fun H => sPart P H t f x) := by
  unfold sPart
  split
  · split
    · split <;> exact keeps_mk _ _
    · exact keeps_no
  · exact keeps_no

theorem keeps_index (t : TypeId) (x i : SV) : Keeps (fun H => sIndex P H t x i) := by
  unfold sIndex
  split
  · split
    · split <;> first | exact keeps_mk _ _ | exact keeps_no
    · split <;> first | exact keeps_mk _ _ | exact keeps_no
    · split <;> first | exact keeps_mk _ _ | exact keeps_no
    · exact keeps_no
  · exact keeps_no

theorem keeps_len (t : TypeId) (x : SV) : Keeps (fun H => sLen P H t x) := by
  unfold sLen
  split
  · split <;> first | exact keeps_mk _ _ | exact keeps_no
  · exact keeps_no

theorem keeps_slice (t : TypeId) (x lo : SV) : Keeps (fun H => sSlice P H t x lo) := by
  unfold sSlice
  split
  · split
    · split <;> first | exact keeps_mk _ _ | exact keeps_no
    · exact keeps_no
  · exact keeps_no

theorem keeps_builtin (b : Builtin) (ts : List TypeId) (xs : List SV) (hb : b = .len ∨ b = .max ∨ b = .min) : Keeps (fun H => sBuiltin P E H b ts xs) := by
  rcases hb with rfl | rfl | rfl
  · unfold sBuiltin
    split
    · exact keeps_len P _ _
    · rename_i h1; cases h1
    · rename_i h1; cases h1
    · rename_i h1; cases h1
    · exact keeps_no
  · unfold sBuiltin
    exact keeps_max _
  · unfold sBuiltin
    exact keeps_min _

theorem keeps_build (t : TypeId) (ps : List (Nat × SV)) : Keeps (fun H => sBuild P H t ps) := by
  unfold sBuild
  split <;> first | exact keeps_mk _ _ | exact keeps_no

theorem keeps_sop {o : Op} (h : pureOp o = true) (ev : Operand → SV) : Keeps (fun H => sop P E Γ q H ev o) := by
  cases o <;> simp only [pureOp, Bool.false_eq_true] at h <;> simp only [sop]
  case move x => exact keeps_mk _ _
  case assign x => exact keeps_mk _ _
  case pick => exact keeps_pick _ _ _
  case nilCheck => exact keeps_nil _
  case binOp => exact keeps_bin P _ _ _ _
  case unOp => exact keeps_un _ _
  case convert => exact keeps_conv P _ _ _
  case makeFunc => exact keeps_mk _ _
  case slice t x lo hi mx =>
    cases lo <;> cases hi <;> cases mx <;> simp only <;> first | exact keeps_no | exact keeps_slice P _ _ _
  case fieldAddr => exact keeps_field P _ _ _
  case field => exact keeps_part P _ _ _
  case indexAddr => exact keeps_index P _ _ _
  case index => exact keeps_at P _ _ _
  case extract => exact keeps_extract _ _
  case build => exact keeps_build P _ _
  case call c =>
    obtain ⟨callee, args, ts⟩ := c
    cases callee with
    | value f => simp at h
    | invoke r m => simp at h
    | builtin b =>
      simp only
      cases b <;> simp at h <;> exact keeps_builtin P E _ _ _ (by simp)

theorem load_heap (H : List AB) (t : TypeId) (x : SV) : (sLoad P E H t x).heap = H := by unfold sLoad; split <;> rfl

theorem lookup_heap (H : List AB) (t : TypeId) (m k : SV) : (sLookup P H t m k).pre → (sLookup P H t m k).heap = H := by
  unfold sLookup
  repeat' split
  all_goals first | (intro _; rfl) | (intro h; exact h.elim)

theorem read_heap {o : Op} (h : effOp o = false) (H : List AB) (ev : Operand → SV) (hp : (sop P E Γ q H ev o).pre) : (sop P E Γ q H ev o).heap = H := by
  cases hpo : pureOp o with
  | true => exact (keeps_sop P E Γ q hpo ev H H).2.2 hp
  | false =>
    have hr : readOp o = true := by simpa [effOp, hpo] using h
    cases o <;> simp only [readOp, Bool.false_eq_true] at hr <;> simp only [sop] at hp ⊢
    case load t x => exact load_heap P E H t _
    case lookup t m k ok =>
      cases ok with
      | false => exact hp.elim
      | true => exact lookup_heap P H t _ _ hp

/-- The operands that an operation looks at. -/
def sopOps : Op → List Operand
  | .pick c a b => [c, a, b]
  | o => opNeeds o

theorem unw_congr {ev ev' : Operand → SV} {x : Operand} (h : ev x = ev' x) : unw ev x = unw ev' x := by unfold unw; rw [h]

theorem map_unw {ev ev' : Operand → SV} : ∀ {l : List Operand}, (∀ x ∈ l, ev x = ev' x) → l.map (unw ev) = l.map (unw ev')
  | [], _ => rfl
  | x :: l, h => by
    simp only [List.map_cons]
    rw [unw_congr (h x (by simp)), map_unw (fun y hy => h y (by simp [hy]))]

theorem map_unw2 {ev ev' : Operand → SV} : ∀ {l : List (Nat × Operand)}, (∀ x ∈ l.map (·.2), ev x = ev' x) → l.map (fun x => (x.1, unw ev x.2)) = l.map (fun x => (x.1, unw ev' x.2))
  | [], _ => rfl
  | x :: l, h => by
    simp only [List.map_cons]
    rw [unw_congr (h x.2 (by simp)), map_unw2 (fun y hy => h y (by simp at hy ⊢; right; exact hy))]

theorem sop_congr {ev ev' : Operand → SV} (H : List AB) (o : Op) (h : ∀ x ∈ sopOps o, ev x = ev' x) : sop P E Γ q H ev o = sop P E Γ q H ev' o := by
  cases o
  case build t ps => simp only [sop]; rw [map_unw2 (by simpa [sopOps, opNeeds] using h)]
  case buildSlice t n ps => simp only [sop]; rw [map_unw2 (by simpa [sopOps, opNeeds] using h)]
  case makeFunc f a b =>
    simp only [sop]
    rw [map_unw (l := a.toList) (fun x hx => h x (by simp only [sopOps, opNeeds, List.mem_append]; exact .inl hx)), map_unw (l := b.toList) (fun x hx => h x (by simp only [sopOps, opNeeds, List.mem_append]; exact .inr hx))]
  case call c =>
    obtain ⟨callee, args, ts⟩ := c
    cases callee with
    | value f =>
      simp only [sop]
      rw [unw_congr (h f (by simp [sopOps, opNeeds])), map_unw (l := args.toList) (fun x hx => h x (by simp only [sopOps, opNeeds, List.mem_cons]; exact .inr hx))]
    | invoke r m => simp only [sop]
    | builtin b =>
      simp only [sop]
      rw [map_unw (l := args.toList) (fun x hx => h x (by simp only [sopOps, opNeeds]; exact hx))]
  case pick c x y =>
    simp only [sop]
    rw [unw_congr (h c (by simp [sopOps])), h x (by simp [sopOps]), h y (by simp [sopOps])]
  case slice t x lo hi mx =>
    cases lo <;> cases hi <;> cases mx <;> simp only [sop]
    rw [unw_congr (h x (by simp [sopOps, opNeeds])), unw_congr (h _ (by simp [sopOps, opNeeds]))]
  case makeMap t r => cases r <;> simp only [sop]
  case lookup t m k ok =>
    cases ok <;> simp only [sop]
    rw [unw_congr (h m (by simp [sopOps, opNeeds])), unw_congr (h k (by simp [sopOps, opNeeds]))]
  case move x => simp only [sop]; rw [unw_congr (h x (by simp [sopOps, opNeeds]))]
  case assign x => simp only [sop]; rw [unw_congr (h x (by simp [sopOps, opNeeds]))]
  case box t x => simp only [sop]; rw [unw_congr (h x (by simp [sopOps, opNeeds]))]
  case load t x => simp only [sop]; rw [unw_congr (h x (by simp [sopOps, opNeeds]))]
  case nilCheck x => simp only [sop]; rw [unw_congr (h x (by simp [sopOps, opNeeds]))]
  case unOp u t x => simp only [sop]; rw [unw_congr (h x (by simp [sopOps, opNeeds]))]
  case convert s d x => simp only [sop]; rw [unw_congr (h x (by simp [sopOps, opNeeds]))]
  case fieldAddr t x f => simp only [sop]; rw [unw_congr (h x (by simp [sopOps, opNeeds]))]
  case field t x f => simp only [sop]; rw [unw_congr (h x (by simp [sopOps, opNeeds]))]
  case extract x i => simp only [sop]; rw [unw_congr (h x (by simp [sopOps, opNeeds]))]
  case store t x y => simp only [sop]; rw [unw_congr (h x (by simp [sopOps, opNeeds])), unw_congr (h y (by simp [sopOps, opNeeds]))]
  case binOp u t x y t2 => simp only [sop]; rw [unw_congr (h x (by simp [sopOps, opNeeds])), unw_congr (h y (by simp [sopOps, opNeeds]))]
  case makeSlice t x y => simp only [sop]; rw [unw_congr (h x (by simp [sopOps, opNeeds])), unw_congr (h y (by simp [sopOps, opNeeds]))]
  case indexAddr t x y => simp only [sop]; rw [unw_congr (h x (by simp [sopOps, opNeeds])), unw_congr (h y (by simp [sopOps, opNeeds]))]
  case index t x y => simp only [sop]; rw [unw_congr (h x (by simp [sopOps, opNeeds])), unw_congr (h y (by simp [sopOps, opNeeds]))]
  case insert t x y z => simp only [sop]; rw [unw_congr (h x (by simp [sopOps, opNeeds])), unw_congr (h y (by simp [sopOps, opNeeds])), unw_congr (h z (by simp [sopOps, opNeeds]))]
  all_goals rfl
end

theorem needs_congr {ev ev' : Operand → SV} (g : Bool) : ∀ {l : List Operand}, (∀ x ∈ l, ev x = ev' x) → needs ev g l = needs ev' g l
  | [], _ => rfl
  | x :: l, h => by
    simp only [needs]
    rw [h x (by simp), needs_congr g (fun y hy => h y (by simp [hy]))]

theorem opNeeds_sub (o : Op) : ∀ x ∈ opNeeds o, x ∈ sopOps o := by
  intro x hx
  cases o <;> first | exact hx | (simp [sopOps, opNeeds] at hx ⊢; simp [hx])

theorem stepR_congr (P : Program) (E : Addr → Option Value) (Γ : Con) (ops : List Oper) (q : Option Nat) (o : Oper) {τ τ' : List SV} (H : List AB)
    (h : ∀ x ∈ sopOps o.op, sev τ x = sev τ' x) (hg : ∀ j want, o.guard = some (j, want) → gslot τ (gdst (onth ops j)) = gslot τ' (gdst (onth ops j))) :
    stepR P E Γ ops q o τ H = stepR P E Γ ops q o τ' H := by
  have h1 := sop_congr P E Γ q H o.op h
  have h2 : ∀ g, needs (sev τ) g (opNeeds o.op) = needs (sev τ') g (opNeeds o.op) := fun g => needs_congr g (fun x hx => h x (opNeeds_sub _ x hx))
  unfold stepR
  cases hgd : o.guard with
  | none => simp only [h1, h2]
  | some jw =>
    obtain ⟨j, want⟩ := jw
    simp only [hg j want hgd]
    unfold r1
    split
    simp only [h1, h2]

theorem stepR_keeps (P : Program) (E : Addr → Option Value) (Γ : Con) (ops : List Oper) (q : Option Nat) (o : Oper) (τ : List SV) (ho : pureOp o.op = true) (H H' : List AB) :
    ((stepR P E Γ ops q o τ H').pre ↔ (stepR P E Γ ops q o τ H).pre) ∧ (stepR P E Γ ops q o τ H').val = (stepR P E Γ ops q o τ H).val := by
  have k := keeps_sop P E Γ q ho (sev τ) H H'
  unfold stepR
  cases hgd : o.guard with
  | none => exact ⟨and_congr Iff.rfl k.1, k.2.1⟩
  | some jw =>
    obtain ⟨j, want⟩ := jw
    simp only [r1, r2]
    exact ⟨and_congr Iff.rfl (imp_congr Iff.rfl k.1), by rw [k.2.1]⟩

theorem stepR_heap (P : Program) (E : Addr → Option Value) (Γ : Con) (ops : List Oper) (q : Option Nat) (o : Oper) (τ : List SV) (ho : effOp o.op = false) (H : List AB) (h : (stepR P E Γ ops q o τ H).pre) : (stepR P E Γ ops q o τ H).heap = H := by
  unfold stepR at h ⊢
  cases hgd : o.guard with
  | none =>
    rw [hgd] at h
    exact read_heap P E Γ q ho H _ h.2
  | some jw =>
    obtain ⟨j, want⟩ := jw
    rw [hgd] at h
    simp only [r1, r2] at h ⊢
    by_cases hg : (gb want (gslot τ (gdst (onth ops j)))).2 = true
    · rw [if_pos hg]; exact read_heap P E Γ q ho H _ (h.2 hg)
    · rw [if_neg hg]

end Go.Proofs.Ytmnpnnegnlhemaa.Eng
namespace Go.Proofs.Ytmnpnnegnlhemaa.Eng
open Go

/-! ### What is known before anything runs -/
def edges (o : Oper) : List Nat := (o.after.toList.filter (Region.binds .any)).map (·.on)

def masks : List Oper → List Nat → List Nat
  | [], acc => acc
  | o :: r, acc => masks r (acc ++ [(edges o).foldl (fun s j => s ||| 2 ^ j ||| acc.getD j 0) 0])

/-- j is ahead of i. -/
def anc (M : List Nat) (j i : Nat) : Bool := (M.getD i 0).testBit j

def tmpsOf : List Operand → List Nat
  | [] => []
  | .tmp t :: l => t :: tmpsOf l
  | _ :: l => tmpsOf l

theorem mem_tmpsOf {t : Nat} : ∀ {l : List Operand}, Operand.tmp t ∈ l → t ∈ tmpsOf l
  | [], h => by simp at h
  | x :: l, h => by
    rcases List.mem_cons.1 h with rfl | h
    · simp [tmpsOf]
    · have := mem_tmpsOf h
      cases x <;> simp [tmpsOf, this]

def slotsOf (ops : List Oper) (o : Oper) : List Nat :=
  tmpsOf (sopOps o.op) ++ (match o.guard with | some (j, _) => (gdst (onth ops j)).toList | none => []) ++ o.dst.toList

def effAt (ops : List Oper) (i : Nat) : Bool := match onth ops i with | some o => effOp o.op | none => false
def pureAt (ops : List Oper) (i : Nat) : Bool := match onth ops i with | some o => pureOp o.op | none => true

def statOk1 (ops : List Oper) (M : List Nat) (i : Nat) (o : Oper) : Bool :=
  (edges o).all (fun e => decide (e < i)) &&
  (List.range ops.length).all (fun j => !(anc M j i) || (edges o).any (fun e => e == j || anc M j e)) &&
  (slotsOf ops o).all (fun t => (List.range ops.length).all fun j => j == i || !(gdst (onth ops j) == some t) || anc M j i || anc M i j)

def statOk (ops : List Oper) : Bool :=
  (List.range ops.length).all fun i => match onth ops i with
    | some o => statOk1 ops (masks ops []) i o
    | none => false

def effD (ops : List Oper) : Nat → List Nat
  | 0 => []
  | i + 1 => match effAt ops i with
    | true => i :: effD ops i
    | false => effD ops i

def subs : List Nat → List (List Nat)
  | [] => [[]]
  | i :: r => subs r ++ (subs r).map (i :: ·)

theorem filter_mem_subs (p : Nat → Bool) : ∀ l : List Nat, l.filter p ∈ subs l
  | [] => by simp [subs]
  | i :: r => by
    have ih := filter_mem_subs p r
    simp only [subs, List.filter_cons, List.mem_append, List.mem_map]
    split
    · exact .inr ⟨_, ih, rfl⟩
    · exact .inl ih

def possB (ops : List Oper) (M eff T : List Nat) (i : Nat) : Bool :=
  !(T.contains i) && eff.all (fun j => !(anc M j i) || T.contains j) && T.all (fun j => !(anc M i j)) && T.all (fun j => eff.all fun k => !(anc M k j) || T.contains k) &&
  !(pureAt ops i) && !(T == eff.filter (fun j => decide (j < i)))

def mkPlan (ops : List Oper) : List (List Nat × Nat) :=
  (subs (effD ops ops.length)).flatMap fun T => ((List.range ops.length).filter (possB ops (masks ops []) (effD ops ops.length) T)).map fun i => (T, i)

def insE (eff T : List Nat) (i : Nat) : List Nat := eff.filter fun j => T.contains j || j == i

/-! ### The walk in the text's order -/
def qAt : List Oper → Nat → Nat → Option Nat
  | [], _, _ => none
  | o :: _, b, 0 => match allocOp o.op with
    | true => some b
    | false => none
  | o :: r, b, i + 1 => qAt r (match allocOp o.op with | true => b + 1 | false => b) i

def holes : List Oper → List AB
  | [] => []
  | o :: r => match allocOp o.op with
    | true => .hole :: holes r
    | false => holes r

section
variable (P : Program) (E : Addr → Option Value) (Γ : Con) (ops : List Oper) (b : Nat) (τ0 : List SV) (H0 : List AB)

def stp (i : Nat) (τ : List SV) (H : List AB) : Res := match onth ops i with
  | some o => stepR P E Γ ops (qAt ops b i) o τ H
  | none => no

def nxt (d : Option Tmp) (τ : List SV) : Res → List SV × List AB
  | ⟨_, v, h⟩ => (tput τ d v, h)

def pref : Nat → List SV × List AB
  | 0 => (τ0, H0)
  | i + 1 => nxt (gdst (onth ops i)) (pref i).1 (stp P E Γ ops b i (pref i).1 (pref i).2)

def hpOf : List Nat → List AB
  | [] => H0
  | i :: T => (stp P E Γ ops b i (pref P E Γ ops b τ0 H0 i).1 (hpOf T)).heap

def preL : Nat → Prop
  | 0 => True
  | i + 1 => preL i ∧ (stp P E Γ ops b i (pref P E Γ ops b τ0 H0 i).1 (pref P E Γ ops b τ0 H0 i).2).pre

def chk2 (eff : Bool) (v : SV) (h : List AB) : Res → Prop
  | ⟨p, v', h'⟩ => p ∧ v' = v ∧ match eff with | true => h' = h | false => True

def chk (T : List Nat) (i : Nat) : Prop :=
  chk2 (effAt ops i) (stp P E Γ ops b i (pref P E Γ ops b τ0 H0 i).1 (pref P E Γ ops b τ0 H0 i).2).val (hpOf P E Γ ops b τ0 H0 (insE (effD ops ops.length) T i))
    (stp P E Γ ops b i (pref P E Γ ops b τ0 H0 i).1 (hpOf P E Γ ops b τ0 H0 T))

def chkL : List (List Nat × Nat) → Prop
  | [] => True
  | (T, i) :: r => chk P E Γ ops b τ0 H0 T i ∧ chkL r

theorem chkL_mem {l : List (List Nat × Nat)} (h : chkL P E Γ ops b τ0 H0 l) : ∀ {T : List Nat} {i : Nat}, (T, i) ∈ l → chk P E Γ ops b τ0 H0 T i := by
  induction l with
  | nil => intro T i hm; simp at hm
  | cons x l ih =>
    obtain ⟨T', i'⟩ := x
    intro T i hm
    rcases List.mem_cons.1 hm with e | hm
    · cases e; exact h.1
    · exact ih h.2 hm

theorem preL_lt : ∀ {n i : Nat}, preL P E Γ ops b τ0 H0 n → i < n → (stp P E Γ ops b i (pref P E Γ ops b τ0 H0 i).1 (pref P E Γ ops b τ0 H0 i).2).pre
  | 0, i, _, h => by omega
  | n + 1, i, hp, h => by
    rcases Nat.lt_succ_iff_lt_or_eq.1 h with q | rfl
    · exact preL_lt hp.1 q
    · exact hp.2

theorem effD_lt : ∀ (n j : Nat), j ∈ effD ops n → j < n ∧ effAt ops j = true
  | 0, j, h => by simp [effD] at h
  | n + 1, j, h => by
    unfold effD at h
    split at h
    · rename_i he
      rcases List.mem_cons.1 h with rfl | h
      · exact ⟨by omega, he⟩
      · have := effD_lt n j h; exact ⟨by omega, this.2⟩
    · have := effD_lt n j h; exact ⟨by omega, this.2⟩

theorem mem_effD : ∀ (n j : Nat), j < n → effAt ops j = true → j ∈ effD ops n
  | 0, j, h, _ => by omega
  | n + 1, j, h, he => by
    unfold effD
    rcases Nat.lt_succ_iff_lt_or_eq.1 h with q | rfl
    · split
      · exact List.mem_cons.2 (.inr (mem_effD n j q he))
      · exact mem_effD n j q he
    · rw [he]; simp

theorem effD_filter (i : Nat) : ∀ n, i ≤ n → (effD ops n).filter (fun j => decide (j < i)) = effD ops i
  | 0, h => by
    obtain rfl : i = 0 := by omega
    simp [effD]
  | n + 1, h => by
    by_cases hi : i = n + 1
    · subst hi
      rw [List.filter_eq_self]
      intro j hj
      simpa using (effD_lt ops _ j hj).1
    · have ih := effD_filter i n (by omega)
      conv => lhs; unfold effD
      split
      · rw [List.filter_cons, if_neg (by simp; omega)]; exact ih
      · exact ih

theorem effAt_some {i : Nat} (h : effAt ops i = true) : ∃ o, onth ops i = some o ∧ effOp o.op = true := by
  unfold effAt at h
  split at h
  · rename_i o ho; exact ⟨o, ho, h⟩
  · cases h

theorem stp_heap {i : Nat} {τ : List SV} {H : List AB} (he : effAt ops i = false) (hp : (stp P E Γ ops b i τ H).pre) : (stp P E Γ ops b i τ H).heap = H := by
  unfold stp at hp ⊢
  unfold effAt at he
  split at hp
  · rename_i o ho
    rw [ho] at he
    exact stepR_heap P E Γ ops _ o τ he H hp
  · exact hp.elim

theorem text_heap (n : Nat) (hp : preL P E Γ ops b τ0 H0 n) : ∀ i, i ≤ n → (pref P E Γ ops b τ0 H0 i).2 = hpOf P E Γ ops b τ0 H0 (effD ops i)
  | 0, _ => by simp [pref, effD, hpOf]
  | i + 1, h => by
    have ih := text_heap n hp i (by omega)
    have hpi := preL_lt P E Γ ops b τ0 H0 hp (show i < n by omega)
    have e : (pref P E Γ ops b τ0 H0 (i + 1)).2 = (stp P E Γ ops b i (pref P E Γ ops b τ0 H0 i).1 (pref P E Γ ops b τ0 H0 i).2).heap := by
      simp only [pref, nxt]
    rw [e]
    unfold effD
    split
    · simp only [hpOf]
      rw [ih]
    · rename_i he
      rw [stp_heap P E Γ ops b he hpi]
      exact ih

/-! ### Slots, whatever has run -/
def onL (L : Array Bool) (j : Nat) : Bool := L.getD j false

def look (L : Array Bool) (t : Nat) : Nat → SV
  | 0 => tg τ0 t
  | i + 1 => if onL L i = true ∧ gdst (onth ops i) = some t then tg (pref P E Γ ops b τ0 H0 (i + 1)).1 t else look L t i

theorem pref_other {i t : Nat} (h : gdst (onth ops i) ≠ some t) : tg (pref P E Γ ops b τ0 H0 (i + 1)).1 t = tg (pref P E Γ ops b τ0 H0 i).1 t := by
  simp only [pref, nxt]
  cases hd : gdst (onth ops i) with
  | none => rfl
  | some d =>
    simp only [tput, tset_eq, tg_eq]
    rw [List.getElem?_set_ne (by rintro rfl; exact h hd)]

theorem pref_length : ∀ i, (pref P E Γ ops b τ0 H0 i).1.length = τ0.length
  | 0 => rfl
  | i + 1 => by
    simp only [pref, nxt]
    cases gdst (onth ops i) with
    | none => exact pref_length i
    | some d => simp only [tput, tset_eq, List.length_set]; exact pref_length i

theorem look_low (L : Array Bool) (t : Nat) : ∀ i, (∀ j, j < i → gdst (onth ops j) = some t → onL L j = true) → look P E Γ ops b τ0 H0 L t i = tg (pref P E Γ ops b τ0 H0 i).1 t
  | 0, _ => rfl
  | i + 1, h => by
    unfold look
    split
    · rfl
    · rename_i hn
      have hne : gdst (onth ops i) ≠ some t := fun e => hn ⟨h i (by omega) e, e⟩
      rw [pref_other P E Γ ops b τ0 H0 hne]
      exact look_low L t i (fun j hj => h j (by omega))

theorem look_high (L : Array Bool) (t i : Nat) : ∀ n, i ≤ n → (∀ j, i ≤ j → j < n → gdst (onth ops j) = some t → onL L j = false) → look P E Γ ops b τ0 H0 L t n = look P E Γ ops b τ0 H0 L t i
  | 0, h, _ => by obtain rfl : i = 0 := by omega
                  rfl
  | n + 1, h, hh => by
    by_cases e : i = n + 1
    · subst e; rfl
    · conv => lhs; unfold look
      rw [if_neg (by rintro ⟨h1, h2⟩; have := hh n (by omega) (by omega) h2; rw [this] at h1; cases h1)]
      exact look_high L t i n (by omega) (fun j h1 h2 => hh j h1 (by omega))

theorem look_at (L : Array Bool) (t i n : Nat) (hi : i ≤ n) (h : ∀ j, j < n → gdst (onth ops j) = some t → (onL L j = true ↔ j < i)) : look P E Γ ops b τ0 H0 L t n = tg (pref P E Γ ops b τ0 H0 i).1 t := by
  rw [look_high P E Γ ops b τ0 H0 L t i n hi (fun j h1 h2 h3 => by
    cases hc : onL L j with
    | false => rfl
    | true => have := (h j h2 h3).1 hc; omega)]
  exact look_low P E Γ ops b τ0 H0 L t i (fun j h1 h2 => (h j (by omega) h2).2 h1)

theorem look_set (L : Array Bool) (t i : Nat) (hd : gdst (onth ops i) ≠ some t) : ∀ n, look P E Γ ops b τ0 H0 (L.setIfInBounds i true) t n = look P E Γ ops b τ0 H0 L t n
  | 0 => rfl
  | n + 1 => by
    unfold look
    rw [look_set L t i hd n]
    by_cases e : n = i
    · subst e
      rw [if_neg (fun h => hd h.2), if_neg (fun h => hd h.2)]
    · have : onL (L.setIfInBounds i true) n = onL L n := by unfold onL; exact getD_set_ne false (Ne.symm e)
      rw [this]
end

theorem RL_of_get {ρ : Env} : ∀ {τ : List SV} {vs : List Value}, τ.length = vs.length → (∀ t, R ρ (tg τ t) (vs.getD t undef)) → RL ρ τ vs
  | [], [], _, _ => by simp [RL]
  | [], _ :: _, h, _ => by simp at h
  | _ :: _, [], h, _ => by simp at h
  | s :: τ, v :: vs, h, hr => by
    simp only [RL]
    refine ⟨by simpa [tg] using hr 0, RL_of_get (by simpa using h) (fun t => ?_)⟩
    simpa [tg] using hr (t + 1)

end Go.Proofs.Ytmnpnnegnlhemaa.Eng
namespace Go.Proofs.Ytmnpnnegnlhemaa.Eng
open Go

structure Stat (ops : List Oper) (M : List Nat) : Prop where
  back : ∀ i o, onth ops i = some o → ∀ e ∈ edges o, e < i
  trans : ∀ i o j, onth ops i = some o → j < ops.length → anc M j i = true → ∃ e ∈ edges o, e = j ∨ anc M j e = true
  slot : ∀ i o t j, onth ops i = some o → t ∈ slotsOf ops o → j < ops.length → j ≠ i → gdst (onth ops j) = some t → anc M j i = true ∨ anc M i j = true

theorem onth_lt {ops : List Oper} {i : Nat} {o : Oper} (h : onth ops i = some o) : i < ops.length := by
  rw [onth_eq] at h
  exact (List.getElem?_eq_some_iff.1 h).1

theorem onth_some {ops : List Oper} {i : Nat} (h : i < ops.length) : ∃ o, onth ops i = some o := by
  rw [onth_eq]; exact ⟨_, List.getElem?_eq_getElem h⟩

theorem stat_of {ops : List Oper} (h : statOk ops = true) : Stat ops (masks ops []) := by
  have get : ∀ i o, onth ops i = some o → statOk1 ops (masks ops []) i o = true := by
    intro i o ho
    unfold statOk at h
    rw [List.all_eq_true] at h
    have := h i (by simpa using onth_lt ho)
    rw [ho] at this
    exact this
  refine ⟨?_, ?_, ?_⟩
  · intro i o ho e he
    have := get i o ho
    simp only [statOk1, Bool.and_eq_true, List.all_eq_true] at this
    simpa using this.1.1 e he
  · intro i o j ho hj ha
    have := get i o ho
    simp only [statOk1, Bool.and_eq_true, List.all_eq_true] at this
    have := this.1.2 j (by simpa using hj)
    rw [ha] at this
    simp only [Bool.not_true, Bool.false_or, List.any_eq_true, Bool.or_eq_true, beq_iff_eq] at this
    exact this
  · intro i o t j ho ht hj hne hd
    have := get i o ho
    simp only [statOk1, Bool.and_eq_true, List.all_eq_true] at this
    have := this.2 t ht j (by simpa using hj)
    simp only [Bool.or_eq_true, beq_iff_eq, Bool.not_eq_true', hd, hne, false_or, beq_self_eq_true, Bool.true_eq_false] at this
    exact this

/-- What has run is closed under what must be ahead. -/
def Closed (ops : List Oper) (L : Array Bool) : Prop := ∀ i o, onth ops i = some o → onL L i = true → ∀ e ∈ edges o, onL L e = true

theorem mem_edges {o : Oper} {e : Nat} : e ∈ edges o ↔ ∃ x ∈ o.after, Region.binds .any x = true ∧ x.on = e := by
  simp [edges, and_assoc]

theorem anc_on {ops : List Oper} {M : List Nat} (hS : Stat ops M) {L : Array Bool} (hc : Closed ops L) : ∀ (i : Nat) (o : Oper), onth ops i = some o → (∀ e ∈ edges o, onL L e = true) → ∀ j, j < ops.length → anc M j i = true → onL L j = true := by
  intro i
  induction i using Nat.strongRecOn with
  | _ i ih =>
    intro o ho hpre j hj ha
    obtain ⟨e, he, h⟩ := hS.trans i o j ho hj ha
    rcases h with rfl | h
    · exact hpre _ he
    · have hlt := hS.back i o ho e he
      obtain ⟨oe, hoe⟩ := onth_some (show e < ops.length from Nat.lt_trans hlt (onth_lt ho))
      exact ih e hlt oe hoe (hc e oe hoe (hpre e he)) j hj h

theorem anc_lt {ops : List Oper} {M : List Nat} (hS : Stat ops M) : ∀ (i : Nat) (o : Oper), onth ops i = some o → ∀ j, j < ops.length → anc M j i = true → j < i := by
  intro i
  induction i using Nat.strongRecOn with
  | _ i ih =>
    intro o ho j hj ha
    obtain ⟨e, he, h⟩ := hS.trans i o j ho hj ha
    have hlt := hS.back i o ho e he
    rcases h with rfl | h
    · exact hlt
    · obtain ⟨oe, hoe⟩ := onth_some (show e < ops.length from Nat.lt_trans hlt (onth_lt ho))
      exact Nat.lt_trans (ih e hlt oe hoe j hj h) hlt

section
variable {P : Program} {g : G} {Γ : Con} {ops : List Oper} {b : Nat} {τ0 : List SV} {H0 : List AB}

theorem onL_set {L : Array Bool} {i : Nat} (hi : i < L.size) (j : Nat) : onL (L.setIfInBounds i true) j = (onL L j || j == i) := by
  unfold onL
  by_cases h : i = j
  · subst h; simp [hi]
  · rw [getD_set_ne false h]
    have : (j == i) = false := by simpa using Ne.symm h
    simp [this]

/-- The operation that comes up next, whatever has run: what it gives. -/
theorem next_facts {M : List Nat} (hM : M = masks ops []) (hS : Stat ops M) {plan : List (List Nat × Nat)} (hpl : plan = mkPlan ops)
    (hp : preL P g.E Γ ops b τ0 H0 ops.length) (hch : chkL P g.E Γ ops b τ0 H0 plan) {L : Array Bool} (hL : L.size = ops.length) (hc : Closed ops L) {i : Nat} {o : Oper} (ho : onth ops i = some o) (hi : onL L i = false)
    (hpre : ∀ e ∈ edges o, onL L e = true) :
    (stp P g.E Γ ops b i (pref P g.E Γ ops b τ0 H0 i).1 (hpOf P g.E Γ ops b τ0 H0 ((effD ops ops.length).filter (onL L)))).pre ∧
    (stp P g.E Γ ops b i (pref P g.E Γ ops b τ0 H0 i).1 (hpOf P g.E Γ ops b τ0 H0 ((effD ops ops.length).filter (onL L)))).val = (stp P g.E Γ ops b i (pref P g.E Γ ops b τ0 H0 i).1 (pref P g.E Γ ops b τ0 H0 i).2).val ∧
    (stp P g.E Γ ops b i (pref P g.E Γ ops b τ0 H0 i).1 (hpOf P g.E Γ ops b τ0 H0 ((effD ops ops.length).filter (onL L)))).heap = hpOf P g.E Γ ops b τ0 H0 ((effD ops ops.length).filter (onL (L.setIfInBounds i true))) := by
  have hin := onth_lt ho
  have hset := onL_set (L := L) (i := i) (by omega)
  have hti := preL_lt P g.E Γ ops b τ0 H0 hp hin
  have hth := text_heap P g.E Γ ops b τ0 H0 ops.length hp i (by omega)
  have hanc := anc_on hS hc i o ho hpre
  -- the versions behind it
  have hT' : (effD ops ops.length).filter (onL (L.setIfInBounds i true)) = (effD ops ops.length).filter (fun j => onL L j || j == i) := by
    congr 1; funext j; exact hset j
  have hneff : effAt ops i = false → (effD ops ops.length).filter (onL (L.setIfInBounds i true)) = (effD ops ops.length).filter (onL L) := by
    intro he
    rw [hT']
    apply List.filter_congr
    intro j hj
    have hne : (j == i) = false := by
      cases hb : j == i with
      | false => rfl
      | true =>
        have : j = i := by simpa using hb
        subst this
        have := (effD_lt ops _ _ hj).2
        rw [he] at this; cases this
    simp [hne]
  by_cases hpure : pureAt ops i = true
  · -- it looks at no heap
    have hpo : pureOp o.op = true := by unfold pureAt at hpure; rw [ho] at hpure; exact hpure
    have he : effAt ops i = false := by unfold effAt; rw [ho]; simp [effOp, hpo]
    have hk := stepR_keeps P g.E Γ ops (qAt ops b i) o (pref P g.E Γ ops b τ0 H0 i).1 hpo (pref P g.E Γ ops b τ0 H0 i).2 (hpOf P g.E Γ ops b τ0 H0 ((effD ops ops.length).filter (onL L)))
    have es : ∀ H, stp P g.E Γ ops b i (pref P g.E Γ ops b τ0 H0 i).1 H = stepR P g.E Γ ops (qAt ops b i) o (pref P g.E Γ ops b τ0 H0 i).1 H := fun H => by unfold stp; rw [ho]
    have hpi := hti
    rw [es] at hpi
    have h1 := hk.1.2 hpi
    refine ⟨by rw [es]; exact h1, by rw [es, es]; exact hk.2, ?_⟩
    rw [hneff he, es]
    exact stepR_heap P g.E Γ ops _ o _ (by unfold effAt at he; rw [ho] at he; exact he) _ h1
  · by_cases htext : (effD ops ops.length).filter (onL L) = effD ops i
    · -- as in the text
      rw [htext, ← hth]
      refine ⟨hti, rfl, ?_⟩
      cases he : effAt ops i with
      | false =>
        rw [hneff he, htext, stp_heap P g.E Γ ops b he hti]
        exact hth
      | true =>
        have e1 : (effD ops ops.length).filter (onL (L.setIfInBounds i true)) = effD ops (i + 1) := by
          rw [hT', ← effD_filter ops (i + 1) ops.length (by omega)]
          apply List.filter_congr
          intro j hj
          have hmem : onL L j = decide (j < i) := by
            have h2 : j ∈ (effD ops ops.length).filter (onL L) ↔ j ∈ effD ops i := by rw [htext]
            rw [List.mem_filter] at h2
            cases hc' : onL L j with
            | true =>
              have := (effD_lt ops _ _ (h2.1 ⟨hj, hc'⟩)).1
              simp [this]
            | false =>
              symm
              rw [decide_eq_false_iff_not]
              intro hlt
              have := h2.2 (mem_effD ops i j hlt (effD_lt ops _ _ hj).2)
              rw [hc'] at this; cases this.2
          rw [hmem]
          by_cases q : j = i
          · subst q; simp
          · have : (j == i) = false := by simpa using q
            rw [this, Bool.or_false]
            rw [decide_eq_decide]
            omega
        rw [e1]
        unfold effD
        rw [he]
        simp only [hpOf]
        rw [hth]
    · -- at another time than in the text
      have hmem : ((effD ops ops.length).filter (onL L), i) ∈ plan := by
        rw [hpl]
        unfold mkPlan
        rw [List.mem_flatMap]
        refine ⟨_, filter_mem_subs (onL L) _, ?_⟩
        rw [List.mem_map]
        refine ⟨i, ?_, rfl⟩
        rw [List.mem_filter]
        refine ⟨by simpa using hin, ?_⟩
        rw [← hM]
        have c1 : ((effD ops ops.length).filter (onL L)).contains i = false := by
          cases hb : ((effD ops ops.length).filter (onL L)).contains i with
          | false => rfl
          | true =>
            rw [List.contains_iff_mem, List.mem_filter] at hb
            rw [hi] at hb; cases hb.2
        have c2 : (effD ops ops.length).all (fun j => !(anc M j i) || ((effD ops ops.length).filter (onL L)).contains j) = true := by
          rw [List.all_eq_true]
          intro j hj
          cases ha : anc M j i with
          | false => rfl
          | true =>
            simp only [Bool.not_true, Bool.false_or, List.contains_iff_mem, List.mem_filter]
            exact ⟨hj, hanc j (effD_lt ops _ _ hj).1 ha⟩
        have c3 : ((effD ops ops.length).filter (onL L)).all (fun j => !(anc M i j)) = true := by
          rw [List.all_eq_true]
          intro j hj
          rw [List.mem_filter] at hj
          cases ha : anc M i j with
          | false => rfl
          | true =>
            obtain ⟨oj, hoj⟩ := onth_some (effD_lt ops _ _ hj.1).1
            have := anc_on hS hc j oj hoj (hc j oj hoj hj.2) i hin ha
            rw [hi] at this; cases this
        have c4 : ((effD ops ops.length).filter (onL L)).all (fun j => (effD ops ops.length).all fun k => !(anc M k j) || ((effD ops ops.length).filter (onL L)).contains k) = true := by
          rw [List.all_eq_true]
          intro j hj
          rw [List.mem_filter] at hj
          rw [List.all_eq_true]
          intro k hk
          cases ha : anc M k j with
          | false => rfl
          | true =>
            obtain ⟨oj, hoj⟩ := onth_some (effD_lt ops _ _ hj.1).1
            simp only [Bool.not_true, Bool.false_or, List.contains_iff_mem, List.mem_filter]
            exact ⟨hk, anc_on hS hc j oj hoj (hc j oj hoj hj.2) k (effD_lt ops _ _ hk).1 ha⟩
        have c5 : pureAt ops i = false := by simpa using hpure
        have c6 : ((effD ops ops.length).filter (onL L) == (effD ops ops.length).filter (fun j => decide (j < i))) = false := by
          rw [effD_filter ops i ops.length (by omega)]
          simpa using htext
        unfold possB
        rw [c1, c2, c3, c4, c5, c6]
        rfl
      have hk := chkL_mem P g.E Γ ops b τ0 H0 hch hmem
      unfold chk at hk
      have hk' : ∀ r : Res, chk2 (effAt ops i) (stp P g.E Γ ops b i (pref P g.E Γ ops b τ0 H0 i).1 (pref P g.E Γ ops b τ0 H0 i).2).val (hpOf P g.E Γ ops b τ0 H0 (insE (effD ops ops.length) ((effD ops ops.length).filter (onL L)) i)) r →
          r.pre ∧ r.val = (stp P g.E Γ ops b i (pref P g.E Γ ops b τ0 H0 i).1 (pref P g.E Γ ops b τ0 H0 i).2).val ∧ (effAt ops i = true → r.heap = hpOf P g.E Γ ops b τ0 H0 (insE (effD ops ops.length) ((effD ops ops.length).filter (onL L)) i)) := by
        intro r hr
        obtain ⟨p, v, h⟩ := r
        simp only [chk2] at hr
        exact ⟨hr.1, hr.2.1, fun he => by rw [he] at hr; exact hr.2.2⟩
      obtain ⟨k1, k2, k3⟩ := hk' _ hk
      refine ⟨k1, k2, ?_⟩
      cases he : effAt ops i with
      | false => rw [hneff he, stp_heap P g.E Γ ops b he k1]
      | true =>
        rw [k3 he, hT']
        congr 1
        unfold insE
        apply List.filter_congr
        intro j hj
        have : ((effD ops ops.length).filter (onL L)).contains j = onL L j := by
          rw [Bool.eq_iff_iff, List.contains_iff_mem, List.mem_filter]
          simp [hj]
        rw [this]

/-- What holds at each time of a drawn region. -/
structure Inv (P : Program) (g : G) (Γ : Con) (ops : List Oper) (b : Nat) (τ0 : List SV) (H0 : List AB) (ρ0 : Env) (ds : List Deferred) (L : Array Bool) (a : Act) (w : World) : Prop where
  size : L.size = ops.length
  closed : Closed ops L
  rest : ∃ ρ, Env.le ρ0 ρ ∧ Sat g ρ (hpOf P g.E Γ ops b τ0 H0 ((effD ops ops.length).filter (onL L))) w ∧ ∀ t, R ρ (look P g.E Γ ops b τ0 H0 L t ops.length) (a.tmps.getD t undef)
  tmps : a.tmps.size = τ0.length
  defers : a.defers = ds

theorem inv_step {M : List Nat} (hM : M = masks ops []) (hS : Stat ops M) {plan : List (List Nat × Nat)} (hpl : plan = mkPlan ops) (hΓ : Con.Sound P g.E Γ)
    (hp : preL P g.E Γ ops b τ0 H0 ops.length) (hch : chkL P g.E Γ ops b τ0 H0 plan) {ρ0 : Env} {ds : List Deferred} {Q : Exit → Act → World → Prop} {L : Array Bool} {a : Act} {w : World}
    (hI : Inv P g Γ ops b τ0 H0 ρ0 ds L a w) {i : Nat} (hi : i ∈ Region.ready .any ops.toArray L) {K : Act → World → Prop}
    (hK : ∀ a' w', Inv P g Γ ops b τ0 H0 ρ0 ds (L.setIfInBounds i true) a' w' → K a' w') : wpOp P ops.toArray Q i K a w := by
  rw [mem_ready] at hi
  obtain ⟨hun, o, ho, hpre⟩ := hi
  have ho' : onth ops i = some o := by rw [onth_eq]; simpa using ho
  have hin := onth_lt ho'
  have hiL : i < L.size := by rw [hI.size]; exact hin
  have hi0 : onL L i = false := by
    unfold onL
    have e1 : L.getD i true = L[i] := by simp [Array.getD, hiL]
    have e2 : L.getD i false = L[i] := by simp [Array.getD, hiL]
    rw [e2, ← e1]; exact hun
  have hpre' : ∀ e ∈ edges o, onL L e = true := by
    intro e he
    obtain ⟨x, hx, hb, rfl⟩ := mem_edges.1 he
    exact hpre x hx hb
  obtain ⟨n1, n2, n3⟩ := next_facts hM hS hpl hp hch hI.size hI.closed ho' hi0 hpre'
  obtain ⟨ρ, r1, r2, r3⟩ := hI.rest
  have hanc := anc_on hS hI.closed i o ho' hpre'
  -- a slot that it looks at holds what it held in the text's order
  have hslot : ∀ t, t ∈ slotsOf ops o → ∀ j, j < ops.length → gdst (onth ops j) = some t → (onL L j = true ↔ j < i) := by
    intro t ht j hj hd
    by_cases e : j = i
    · subst e; simp [hi0]
    · rcases hS.slot i o t j ho' ht hj e hd with h | h
      · have h1 := hanc j hj h
        have h2 := anc_lt hS i o ho' j hj h
        simp [h1, h2]
      · obtain ⟨oj, hoj⟩ := onth_some hj
        have h2 := anc_lt hS j oj hoj i hin h
        constructor
        · intro hon
          have := anc_on hS hI.closed j oj hoj (hI.closed j oj hoj hon) i hin h
          rw [hi0] at this; cases this
        · intro hlt; omega
  have hlook : ∀ t, t ∈ slotsOf ops o → look P g.E Γ ops b τ0 H0 L t ops.length = tg (pref P g.E Γ ops b τ0 H0 i).1 t := fun t ht =>
    look_at P g.E Γ ops b τ0 H0 L t i ops.length (by omega) (hslot t ht)
  -- the slots as a list
  have hlen := pref_length P g.E Γ ops b τ0 H0 i
  have hτ : ∀ t, tg ((List.range τ0.length).map fun t => look P g.E Γ ops b τ0 H0 L t ops.length) t = if t < τ0.length then look P g.E Γ ops b τ0 H0 L t ops.length else .raw undef := by
    intro t
    rw [tg_eq]
    by_cases h : t < τ0.length
    · simp [h]
    · simp [h]
  have hRL : RL ρ ((List.range τ0.length).map fun t => look P g.E Γ ops b τ0 H0 L t ops.length) a.tmps.toList := by
    refine RL_of_get (by simp [hI.tmps]) (fun t => ?_)
    rw [hτ]
    have e : a.tmps.toList.getD t undef = a.tmps.getD t undef := by simp [Array.getD_eq_getD_getElem?]
    rw [e]
    split
    · exact r3 t
    · rename_i h
      rw [Array.getD_eq_getD_getElem?, Array.getElem?_eq_none (by rw [hI.tmps]; omega)]
      simp [R]
  have hsame : ∀ t, t ∈ slotsOf ops o → tg ((List.range τ0.length).map fun t => look P g.E Γ ops b τ0 H0 L t ops.length) t = tg (pref P g.E Γ ops b τ0 H0 i).1 t := by
    intro t ht
    rw [hτ]
    split
    · exact hlook t ht
    · rename_i h
      rw [tg_eq, List.getElem?_eq_none (by rw [hlen]; omega)]
      rfl
  have hcongr : ∀ H, stepR P g.E Γ ops (qAt ops b i) o ((List.range τ0.length).map fun t => look P g.E Γ ops b τ0 H0 L t ops.length) H = stepR P g.E Γ ops (qAt ops b i) o (pref P g.E Γ ops b τ0 H0 i).1 H := by
    intro H
    refine stepR_congr P g.E Γ ops _ o H (fun x hx => ?_) (fun j want hg => ?_)
    · cases x with
      | tmp t => exact hsame t (by simp only [slotsOf, List.mem_append]; exact .inl (.inl (mem_tmpsOf hx)))
      | _ => rfl
    · cases hd : gdst (onth ops j) with
      | none => rfl
      | some d =>
        simp only [gslot]
        exact hsame d (by simp only [slotsOf, hg, List.mem_append, hd, Option.toList]; exact .inl (.inr (by simp)))
  have es : ∀ H, stp P g.E Γ ops b i (pref P g.E Γ ops b τ0 H0 i).1 H = stepR P g.E Γ ops (qAt ops b i) o (pref P g.E Γ ops b τ0 H0 i).1 H := fun H => by unfold stp; rw [ho']
  rw [es] at n1
  rw [es, es] at n2
  rw [es] at n3
  unfold wpOp
  rw [ho]
  refine wp_op_step (q := qAt ops b i) r2 hΓ hRL (by rw [hcongr]; exact n1) (fun ρ' a' w' x k1 k2 k3 k4 => ?_)
  subst k4
  rw [hcongr] at k2 k3
  rw [n3] at k2
  rw [n2] at k3
  refine hK _ _ ⟨by simp [hI.size], ?_, ⟨ρ', Env.le_trans r1 k1, k2, ?_⟩, ?_, by rw [put_defers]; exact hI.defers⟩
  · intro j oj hoj hon e he
    rw [onL_set hiL] at hon ⊢
    by_cases q : j = i
    · subst q
      rw [ho'] at hoj; cases hoj
      rw [hpre' e he]; rfl
    · have : (j == i) = false := by simpa using q
      rw [this, Bool.or_false] at hon
      rw [hI.closed j oj hoj hon e he]; rfl
  · intro t
    by_cases hd : gdst (onth ops i) = some t
    · -- the slot that it writes
      have hod : o.dst = some t := by rw [ho'] at hd; exact hd
      have hts : t ∈ slotsOf ops o := by simp [slotsOf, hod]
      have hl : look P g.E Γ ops b τ0 H0 (L.setIfInBounds i true) t ops.length = tg (pref P g.E Γ ops b τ0 H0 (i + 1)).1 t := by
        refine look_at P g.E Γ ops b τ0 H0 _ t (i + 1) ops.length (by omega) (fun j hj hdj => ?_)
        rw [onL_set hiL, Bool.or_eq_true, beq_iff_eq, hslot t hts j hj hdj]
        omega
      rw [hl]
      have hpr : (pref P g.E Γ ops b τ0 H0 (i + 1)).1 = tput (pref P g.E Γ ops b τ0 H0 i).1 (some t) (stepR P g.E Γ ops (qAt ops b i) o (pref P g.E Γ ops b τ0 H0 i).1 (pref P g.E Γ ops b τ0 H0 i).2).val := by
        simp only [pref, nxt, hd, es]
      rw [hpr, hod]
      simp only [tput, tset_eq, tg_eq, Act.put]
      have htm := hI.tmps
      by_cases hlt : t < a.tmps.size
      · rw [List.getElem?_set_self (by rw [hlen]; omega)]
        simpa [hlt] using k3
      · rw [List.getElem?_eq_none (by simp [hlen]; omega)]
        have : (a.tmps.setIfInBounds t x).getD t undef = undef := by
          rw [Array.getD_eq_getD_getElem?, Array.getElem?_eq_none (by simp; omega)]
          rfl
        rw [this]
        simp [R]
    · rw [look_set P g.E Γ ops b τ0 H0 L t i hd]
      have : (a.put o.dst x).tmps.getD t undef = a.tmps.getD t undef := by
        rw [ho'] at hd
        simp only [gdst] at hd
        cases hod : o.dst with
        | none => rfl
        | some d =>
          rw [hod] at hd
          simp only [Act.put]
          rw [Array.getD_eq_getD_getElem?, Array.getD_eq_getD_getElem?, Array.getElem?_setIfInBounds_ne (by rintro rfl; exact hd rfl)]
      rw [this]
      exact R.mono k1 _ _ (r3 t)
  · cases hod : o.dst with
    | none => exact hI.tmps
    | some d => simp only [Act.put, Array.size_setIfInBounds]; exact hI.tmps

theorem ready_full {L : Array Bool} (hL : L.size = ops.length) (hS : Stat ops (masks ops [])) (h : Region.ready .any ops.toArray L = []) : ∀ i, i < ops.length → onL L i = true := by
  intro i
  induction i using Nat.strongRecOn with
  | _ i ih =>
    intro hi
    cases hc : onL L i with
    | true => rfl
    | false =>
      exfalso
      obtain ⟨o, ho⟩ := onth_some hi
      have hm : i ∈ Region.ready .any ops.toArray L := by
        rw [mem_ready]
        have hiL : i < L.size := by omega
        refine ⟨?_, o, by rw [onth_eq] at ho; simpa using ho, fun x hx hb => ?_⟩
        · have e1 : L.getD i true = L[i] := by simp [Array.getD, hiL]
          have e2 : L.getD i false = L[i] := by simp [Array.getD, hiL]
          rw [e1, ← e2]; exact hc
        · have hlt := hS.back i o ho x.on (mem_edges.2 ⟨x, hx, hb, rfl⟩)
          exact ih x.on hlt (by omega)
      rw [h] at hm
      cases hm

theorem inv_any {M : List Nat} (hM : M = masks ops []) (hS : Stat ops M) {plan : List (List Nat × Nat)} (hpl : plan = mkPlan ops) (hΓ : Con.Sound P g.E Γ)
    (hp : preL P g.E Γ ops b τ0 H0 ops.length) (hch : chkL P g.E Γ ops b τ0 H0 plan) {ρ0 : Env} {ds : List Deferred} {Q : Exit → Act → World → Prop}
    (hQ : ∀ ρ a w, Env.le ρ0 ρ → Sat g ρ (pref P g.E Γ ops b τ0 H0 ops.length).2 w → RL ρ (pref P g.E Γ ops b τ0 H0 ops.length).1 a.tmps.toList → a.defers = ds → Q .normal a w) :
    ∀ (fuel : Nat) (L : Array Bool) (a : Act) (w : World), Inv P g Γ ops b τ0 H0 ρ0 ds L a w → (∀ i, i < ops.length → onL L i = true) ∨ (∃ k, k ≤ fuel ∧ ((List.range ops.length).filter (fun i => !(onL L i))).length = k) →
    wpAny P .any ops.toArray Q fuel L a w := by
  have done : ∀ (L : Array Bool) (a : Act) (w : World), Inv P g Γ ops b τ0 H0 ρ0 ds L a w → (∀ i, i < ops.length → onL L i = true) → Q .normal a w := by
    intro L a w hI hall
    obtain ⟨ρ, r1, r2, r3⟩ := hI.rest
    have hf : (effD ops ops.length).filter (onL L) = effD ops ops.length := by
      rw [List.filter_eq_self]
      intro j hj
      exact hall j (effD_lt ops _ _ hj).1
    rw [hf, ← text_heap P g.E Γ ops b τ0 H0 ops.length hp ops.length (Nat.le_refl _)] at r2
    refine hQ ρ a w r1 r2 ?_ hI.defers
    refine RL_of_get (by rw [pref_length]; simp [hI.tmps]) (fun t => ?_)
    have e : a.tmps.toList.getD t undef = a.tmps.getD t undef := by simp [Array.getD_eq_getD_getElem?]
    rw [e, ← look_at P g.E Γ ops b τ0 H0 L t ops.length ops.length (Nat.le_refl _) (fun j hj _ => by simp [hall j hj, hj])]
    exact r3 t
  intro fuel
  induction fuel with
  | zero =>
    intro L a w hI h
    have hall : ∀ i, i < ops.length → onL L i = true := by
      rcases h with h | ⟨k, hk, hl⟩
      · exact h
      · intro i hi
        have : ((List.range ops.length).filter (fun i => !(onL L i))) = [] := List.eq_nil_of_length_eq_zero (by omega)
        rw [List.filter_eq_nil_iff] at this
        simpa using this i (by simpa using hi)
    refine ⟨?_, done L a w hI hall⟩
    apply List.eq_nil_iff_forall_not_mem.2
    intro i hi
    rw [mem_ready] at hi
    obtain ⟨h1, o, ho, _⟩ := hi
    have hi' : i < ops.length := by have := (Array.getElem?_eq_some_iff.1 ho).1; simpa using this
    have h2 := hall i hi'
    have hiL : i < L.size := by rw [hI.size]; exact hi'
    unfold onL at h2
    have e1 : L.getD i true = L[i] := by simp [Array.getD, hiL]
    have e2 : L.getD i false = L[i] := by simp [Array.getD, hiL]
    rw [e2, ← e1, h1] at h2
    cases h2
  | succ fuel ih =>
    intro L a w hI h
    refine ⟨fun hr => done L a w hI (ready_full hI.size (hM ▸ hS) hr), fun i hi => ?_⟩
    refine inv_step hM hS hpl hΓ hp hch hI hi (fun a' w' hI' => ih _ a' w' hI' ?_)
    -- one less is left
    rw [mem_ready] at hi
    obtain ⟨h1, o, ho, _⟩ := hi
    have hi' : i < ops.length := by have := (Array.getElem?_eq_some_iff.1 ho).1; simpa using this
    have hiL : i < L.size := by rw [hI.size]; exact hi'
    have h0 : onL L i = false := by
      unfold onL
      have e1 : L.getD i true = L[i] := by simp [Array.getD, hiL]
      have e2 : L.getD i false = L[i] := by simp [Array.getD, hiL]
      rw [e2, ← e1]; exact h1
    rcases h with h | ⟨k, hk, hl⟩
    · rw [h i hi'] at h0; cases h0
    · right
      refine ⟨_, ?_, rfl⟩
      have hlt : ((List.range ops.length).filter (fun j => !(onL (L.setIfInBounds i true) j))).length < ((List.range ops.length).filter (fun j => !(onL L j))).length := by
        have hsub : (List.range ops.length).filter (fun j => !(onL (L.setIfInBounds i true) j)) = ((List.range ops.length).filter (fun j => !(onL L j))).filter (fun j => !(j == i)) := by
          rw [List.filter_filter]
          apply List.filter_congr
          intro j _
          rw [onL_set hiL]
          cases onL L j <;> cases j == i <;> rfl
        rw [hsub]
        apply List.length_filter_lt_length_iff_exists.2
        exact ⟨i, by rw [List.mem_filter]; exact ⟨by simpa using hi', by simp [h0]⟩, by simp⟩
      omega

/-- **A region that draws its order, walked in the text's order.** -/
theorem drawn_sound (hm : P.follows .mixedOrders = true) (hst : statOk ops = true) {plan : List (List Nat × Nat)} (hpl : plan = mkPlan ops) (hΓ : Con.Sound P g.E Γ) {ρ0 : Env} {a : Act} {w : World} {Q : Exit → Act → World → Prop} {id : Nat}
    (hs : Sat g ρ0 H0 w) (ht : RL ρ0 τ0 a.tmps.toList)
    (hp : preL P g.E Γ ops b τ0 H0 ops.length) (hch : chkL P g.E Γ ops b τ0 H0 plan)
    (hQ : ∀ ρ a' w', Env.le ρ0 ρ → Sat g ρ (pref P g.E Γ ops b τ0 H0 ops.length).2 w' → RL ρ (pref P g.E Γ ops b τ0 H0 ops.length).1 a'.tmps.toList → a'.defers = a.defers → Q .normal a' w') :
    (Code.region id ops.toArray true).wp P Q a w := by
  refine wp_region_any hm (inv_any rfl (stat_of hst) hpl hΓ hp hch hQ _ _ _ _ ?_ ?_)
  · have h0 : ∀ j, onL (Array.replicate ops.toArray.size false) j = false := by
      intro j; unfold onL
      by_cases h : j < ops.length
      · simp [Array.getD, h]
      · simp [Array.getD, h]
    refine ⟨by simp, fun i o _ hon => (by rw [h0] at hon; cases hon), ⟨ρ0, Env.le_refl _, ?_, fun t => ?_⟩, ?_, rfl⟩
    · have : (effD ops ops.length).filter (onL (Array.replicate ops.toArray.size false)) = [] := by
        rw [List.filter_eq_nil_iff]; intro j _; rw [h0]; simp
      rw [this]
      exact hs.same rfl rfl rfl rfl
    · have : look P g.E Γ ops b τ0 H0 (Array.replicate ops.toArray.size false) t ops.length = tg τ0 t := by
        rw [look_high P g.E Γ ops b τ0 H0 _ t 0 ops.length (by omega) (fun j _ _ _ => h0 j)]
        rfl
      rw [this]
      exact R_tg ht t
    · have := ht.length; simpa using this.symm
  · right
    refine ⟨_, ?_, rfl⟩
    have := List.length_filter_le (fun i => !(onL (Array.replicate ops.toArray.size false) i)) (List.range ops.length)
    simpa using this
end

end Go.Proofs.Ytmnpnnegnlhemaa.Eng
namespace Go.Proofs.Ytmnpnnegnlhemaa.Eng
open Go

def FR (r : Option Nat) : Fence := { Fence.wide with round := r }

theorem FR_room (r : Option Nat) (n : Nat) : (FR r).room n := fun _ h => by simp [FR, Fence.wide] at h

theorem callsIn_FR {r : Option Nat} {n : Nat} {P : Program} {f : FuncId} {args : Array Value} {w : World} {R : Ending → World → Prop} : CallsIn (FR r) n P f args w R ↔ Calls P f args w R := callsIn_wide (n := n)

theorem roundIn_FR {r : Option Nat} {n m : Nat} {P : Program} {l : Nat} {f : FuncId} {tmps : Array Value} {as b : Code} {w : World} {R : Ending → World → Prop} (h : RoundIn Fence.wide m P l f tmps as b w R) : RoundIn (FR r) n P l f tmps as b w R :=
  ⟨trivial, fun c cs _ => h.2 c cs (room_wide _)⟩

theorem rowsIn_FR {r : Option Nat} {n : Nat} {P : Program} {row : String} {args : Array Value} {w : World} {R : Value → World → Prop} (h : Rows P row args w R) : RowsIn (FR r) n P row args w R :=
  fun c cs _ => let ⟨v, w', q, s⟩ := h c cs; ⟨v, w', q, stepsIn_wide.2 s⟩

/-- No deferred call. -/
def noDef (o : Oper) : Bool := match o.op with
  | .defer _ => false
  | _ => true

theorem noDef_spec {o : Oper} (h : noDef o = true) : ∀ c, o.op ≠ .defer c := by
  intro c e
  simp [noDef, e] at h

section
variable {P : Program} {rd : Option Nat} {n : Nat}

theorem upon_in {o : Oper} {a : Act} {K : Act → World → Prop} {Q : Exit → Act → World → Prop} : ∀ {r : Result Next}, o.upon P a K Q r → o.uponIn (FR rd) n P a K Q r := by
  intro r h
  cases r with
  | ok x w =>
    cases x with
    | enter f args =>
      refine ⟨fun e => by simp [FR, Fence.wide] at e, callsIn_FR.2 ?_⟩
      exact Calls.mono h fun e w' he => by cases e <;> exact he
    | row r args => exact ⟨fun e => by simp [FR, Fence.wide] at e, rowsIn_FR h⟩
    | _ => first | exact h | exact h.elim
  | halt s w =>
    cases s with
    | panic v => exact h
    | _ => exact h.elim

theorem wp_in {o : Oper} {a : Act} {w : World} {K : Act → World → Prop} {Q : Exit → Act → World → Prop} (hd : noDef o = true) (h : o.wp P a w K Q) : o.wpIn (FR rd) n P a w K Q :=
  ⟨fun _ _ => trivial, by rw [Oper.semAt_eq _ _ _ (noDef_spec hd)]; exact upon_in h⟩

theorem list_in {ops : Array Oper} {Q : Exit → Act → World → Prop} (hQ : ¬ LetsOut Q) : ∀ (r : List Oper) (a : Act) (w : World), r.all noDef = true → wpList P ops Q r a w → wpListIn (FR rd) n P ops Q r a w
  | [], _, _, _, h => h
  | o :: r, a, w, hd, h => by
    simp only [List.all_cons, Bool.and_eq_true] at hd
    simp only [wpList] at h
    simp only [wpListIn]
    split
    · rename_i hw
      simp only [hw, if_true] at h
      rcases h with h | h
      · exact Oper.wpIn_mono (fun a w hh => list_in hQ r a w hd.2 hh) (wp_in hd.1 h)
      · exact absurd h.2 hQ
    · rename_i hw
      simp only [hw] at h
      exact ⟨fun _ _ => trivial, list_in hQ r _ w hd.2 h⟩

theorem any_in {ops : List Oper} {Q : Exit → Act → World → Prop} (hQ : ¬ LetsOut Q) (hd : ops.all noDef = true) : ∀ (fuel : Nat) (L : Array Bool) (a : Act) (w : World), wpAny P .any ops.toArray Q fuel L a w → wpAnyIn (FR rd) n P .any ops.toArray Q fuel L a w
  | 0, _, _, _, h => h
  | fuel + 1, L, a, w, h => by
    refine ⟨h.1, fun i hi => ?_⟩
    have hh := h.2 i hi
    unfold wpOp at hh
    unfold wpOpIn
    split
    · rename_i e
      rw [e] at hh
      exact any_in hQ hd fuel _ a w hh
    · rename_i o e
      rw [e] at hh
      have ho : noDef o = true := by
        rw [List.all_eq_true] at hd
        exact hd o (List.mem_of_getElem? (by simpa using e))
      simp only at hh
      split
      · rename_i hw
        simp only [hw, if_true] at hh
        rcases hh with hh | hh
        · exact Oper.wpIn_mono (fun a w h' => any_in hQ hd fuel _ a w h') (wp_in ho hh)
        · exact absurd hh.2 hQ
      · rename_i hw
        simp only [hw] at hh
        exact ⟨fun _ _ => trivial, any_in hQ hd fuel _ _ w hh⟩
end

/-! ### What a step keeps -/
/-- The blocks that an abstract heap has. -/
def G.of (E : Addr → Option Value) (ρ : Env) (H : List AB) (w : World) : G := ⟨w, fun b => ∃ i ab c, H[i]? = some ab ∧ ab.live = true ∧ ρ i = some (b, c), E⟩

theorem Sat.self {g : G} {ρ : Env} {H : List AB} {w : World} (h : Sat g ρ H w) : Sat (G.of g.E ρ H w) ρ H w :=
  ⟨rfl, rfl, rfl, Nat.le_refl _, fun _ _ _ => rfl, h.blk, fun i ab _b c hi hv hr => .inl ⟨i, ab, c, hi, hv, hr⟩, h.lt, h.inj, h.out, h.ro⟩

theorem Sat.comp {g : G} {ρ ρ' : Env} {H H' : List AB} {w w' : World} (h : Sat g ρ H w) (k : Sat (G.of g.E ρ H w) ρ' H' w') : Sat g ρ' H' w' := by
  refine ⟨k.os.trans h.os, k.tape.trans h.tape, k.output.trans h.output, Nat.le_trans h.size k.size, ?_, k.blk, ?_, k.lt, k.inj, k.out, k.ro⟩
  · intro b hb hA
    have hbw : b < w.heap.size := Nat.lt_of_lt_of_le hb h.size
    rw [k.keep b hbw ?_]
    · exact h.keep b hb hA
    · rintro ⟨i, ab, c, hi, hv, hr⟩
      rcases h.own i ab b c hi hv hr with q | q
      · exact hA q
      · omega
  · intro i ab b c hi hv hr
    rcases k.own i ab b c hi hv hr with ⟨i', ab', c', hi', hv', hr'⟩ | q
    · exact h.own i' ab' b c' hi' hv' hr'
    · exact .inr (Nat.le_trans h.size q)

/-- A block that is ours, and that no live index names. -/
structure Spare (g : G) (ρ : Env) (H : List AB) (w : World) (d : Nat) : Prop where
  size : g.w0.heap.size ≤ d
  lt : d < w.heap.size
  free : ∀ i ab b c, H[i]? = some ab → ab.live = true → ρ i = some (b, c) → b ≠ d
  ro : ∀ a v, g.E a = some v → a.block ≠ d

theorem Spare.comp {g : G} {ρ ρ' : Env} {H H' : List AB} {w w' : World} {d : Nat} (h : Spare g ρ H w d) (k : Sat (G.of g.E ρ H w) ρ' H' w') : Spare g ρ' H' w' d ∧ w'.heap[d]? = w.heap[d]? := by
  have hn : ¬ (G.of g.E ρ H w).A d := by
    rintro ⟨i, ab, c, hi, hv, hr⟩
    exact h.free i ab d c hi hv hr rfl
  refine ⟨⟨h.size, Nat.lt_of_lt_of_le h.lt k.size, ?_, h.ro⟩, k.keep d h.lt hn⟩
  intro i ab b c hi hv hr e
  subst e
  rcases k.own i ab b c hi hv hr with q | q
  · exact hn q
  · have hl := h.lt
    have : (G.of g.E ρ H w).w0.heap.size = w.heap.size := rfl
    omega

/-- Such a block turns. -/
theorem Sat.touch {g : G} {ρ : Env} {H : List AB} {w w' : World} {d : Nat} (h : Sat g ρ H w) (hd : Spare g ρ H w d)
    (h1 : w'.os = w.os) (h2 : w'.tape = w.tape) (h3 : w'.output = w.output) (h4 : w'.heap.size = w.heap.size) (hh : ∀ k, k ≠ d → w'.heap[k]? = w.heap[k]?) : Sat g ρ H w' := by
  refine ⟨h1.trans h.os, h2.trans h.tape, h3.trans h.output, by rw [h4]; exact h.size, ?_, ?_, h.own, ?_, h.inj, h.out, ?_⟩
  · intro b hb hA
    rw [hh b (by have := hd.size; omega)]
    exact h.keep b hb hA
  · intro i ab hi
    exact (h.blk i ab hi).mono (Env.le_refl _) rfl (fun b c hv hr => hh b (hd.free i ab b c hi hv hr))
  · intro i ab b c hi hv hr
    rw [h4]; exact h.lt i ab b c hi hv hr
  · intro a v e
    obtain ⟨q1, q2, q3⟩ := h.ro a v e
    refine ⟨?_, by rw [h4]; exact q2, q3⟩
    have : w'.heap[a.block]? = w.heap[a.block]? := hh _ (hd.ro a v e)
    unfold World.cell? at q1 ⊢
    rw [this]; exact q1

/-- A block that is new, and not named. -/
theorem Sat.grow {g : G} {ρ : Env} {H : List AB} {w : World} (h : Sat g ρ H w) (o : Obj) : Sat g ρ H (w.alloc o) ∧ Spare g ρ H (w.alloc o) w.heap.size := by
  have hh : ∀ k, k < w.heap.size → (w.alloc o).heap[k]? = w.heap[k]? := fun k hk => RowKit.Below.heap_alloc w o k hk
  have hsz : (w.alloc o).heap.size = w.heap.size + 1 := by simp
  refine ⟨⟨h.os, h.tape, h.output, by rw [hsz]; have := h.size; omega, ?_, ?_, h.own, ?_, h.inj, h.out, ?_⟩, h.size, by rw [hsz]; omega, ?_, ?_⟩
  · intro b hb hA
    rw [hh b (by have := h.size; omega)]
    exact h.keep b hb hA
  · intro i ab hi
    exact (h.blk i ab hi).mono (Env.le_refl _) rfl (fun b c hv hr => hh b (h.lt i ab b c hi hv hr))
  · intro i ab b c hi hv hr
    have := h.lt i ab b c hi hv hr
    rw [hsz]; omega
  · intro a v e
    obtain ⟨q1, q2, q3⟩ := h.ro a v e
    refine ⟨?_, by rw [hsz]; omega, q3⟩
    have : (w.alloc o).heap[a.block]? = w.heap[a.block]? := hh _ q2
    unfold World.cell? at q1 ⊢
    rw [this]; exact q1
  · intro i ab b c hi hv hr e
    have := h.lt i ab b c hi hv hr
    omega
  · intro a v e e'
    have := (h.ro a v e).2.1
    omega

/-- An index is given up: its block is spare. -/
theorem Sat.drop {g : G} {ρ : Env} {H : List AB} {w : World} (h : Sat g ρ H w) {i b : Nat} {c : Nat × Nat} {ab : AB} (hi : H[i]? = some ab) (hv : ab.live = true) (hr : ρ i = some (b, c)) (hs : g.w0.heap.size ≤ b) :
    Sat g ρ (H.set i .dead) w ∧ Spare g ρ (H.set i .dead) w b := by
  refine ⟨h.kill i, hs, h.lt i ab b c hi hv hr, ?_, fun a v e e' => (h.ro a v e).2.2 i ab b c hi hv hr e'.symm⟩
  intro j aj b' c' hj hvj hrj e
  subst e
  by_cases k : j = i
  · subst k
    rw [List.getElem?_set] at hj
    simp at hj
    rw [← hj.2] at hvj
    cases hvj
  · rw [List.getElem?_set_ne (Ne.symm k)] at hj
    exact k (h.inj j i aj ab b' c' c hj hi hvj hv hrj hr)

/-! ### A region with a call of yield -/
section
variable (P : Program) (E : Addr → Option Value) (Γ : Con)

def yieldR (τ : List SV) (H : List AB) (o : Oper) (args : List SV) (old : Res) : SV → Res
  | .fn (.yield l) [] [] => r0 (needs (sev τ) true (opNeeds o.op)) (Γ (.yield l) args H)
  | _ => old

def stepY (ops : List Oper) (o : Oper) (τ : List SV) (H : List AB) : Res :=
  match o.guard, o.op with
  | none, .call ⟨.value f, args, _⟩ => yieldR Γ τ H o (args.toList.map (unw (sev τ))) (stepR P E Γ ops none o τ H) (unw (sev τ) f)
  | _, _ => stepR P E Γ ops none o τ H

def srunY (ops : List Oper) : List Oper → Prop → List SV → List AB → St
  | [], acc, τ, H => ⟨acc, τ, H⟩
  | o :: r, acc, τ, H => contA (srunY ops r) acc o.dst τ (stepY P E Γ ops o τ H)

theorem srunY_acc (ops : List Oper) : ∀ (r : List Oper) (acc : Prop) (τ : List SV) (H : List AB), (srunY P E Γ ops r acc τ H).pre → acc
  | [], _, _, _, h => h
  | o :: r, acc, τ, H, h => by
    simp only [srunY] at h
    generalize stepY P E Γ ops o τ H = s at h
    obtain ⟨p, v, H'⟩ := s
    exact (srunY_acc ops r _ _ _ h).1
end

theorem wp_op_stepY {P : Program} {g : G} {ρ : Env} {H : List AB} {w : World} {Γ : Con} {ops : List Oper} {τ : List SV} {a : Act} {o : Oper} {rd : Option Nat} {n : Nat}
    (hs : Sat g ρ H w) (hΓ : Con.Sound P g.E Γ) (ht : RL ρ τ a.tmps.toList) (hd : noDef o = true) (h : (stepY P g.E Γ ops o τ H).pre)
    {K : Act → World → Prop} {Q : Exit → Act → World → Prop} (hQ : ¬ LetsOut Q)
    (hK : ∀ ρ' a' w' x, Env.le ρ ρ' → Sat g ρ' (stepY P g.E Γ ops o τ H).heap w' → R ρ' (stepY P g.E Γ ops o τ H).val x → a' = a.put o.dst x → K a' w') :
    if Region.wanted o (yielded ops.toArray a.tmps) then o.wpIn (FR rd) n P a w K Q else (∀ f, o.about P w a.eval = some f → (FR rd).fn f) ∧ K (a.put o.dst undef) w := by
  have plain : (stepR P g.E Γ ops none o τ H).pre → (∀ ρ' a' w' x, Env.le ρ ρ' → Sat g ρ' (stepR P g.E Γ ops none o τ H).heap w' → R ρ' (stepR P g.E Γ ops none o τ H).val x → a' = a.put o.dst x → K a' w') →
      if Region.wanted o (yielded ops.toArray a.tmps) then o.wpIn (FR rd) n P a w K Q else (∀ f, o.about P w a.eval = some f → (FR rd).fn f) ∧ K (a.put o.dst undef) w := by
    intro h hK
    have := wp_op_step (K := K) (Q := Q) hs hΓ ht h hK
    split
    · rename_i hw
      simp only [hw, if_true] at this
      rcases this with q | q
      · exact wp_in hd q
      · exact absurd q.2 hQ
    · rename_i hw
      simp only [hw] at this
      exact ⟨fun _ _ => trivial, this⟩
  unfold stepY at h hK
  split at h
  · rename_i f args at' hg ho
    simp only [hg, ho] at hK
    unfold yieldR at h hK
    split at h
    · rename_i l hf
      rw [hf] at hK
      simp only [r0] at h hK
      obtain ⟨hn, h⟩ := h
      have hv : R ρ (unw (sev τ) f) (a.eval f) := needs_spec rfl hn f (by simp [opNeeds, ho]) (R_sev ht f)
      rw [hf] at hv
      simp only [R] at hv
      obtain ⟨v1, v2, hv, r1, r2⟩ := hv
      have e1 : v1 = #[] := by apply Array.ext'; cases hh : v1.toList with
        | nil => rfl
        | cons x l => rw [hh] at r1; simp only [RL] at r1
      have e2 : v2 = #[] := by apply Array.ext'; cases hh : v2.toList with
        | nil => rfl
        | cons x l => rw [hh] at r2; simp only [RL] at r2
      subst e1; subst e2
      have hargs : RL ρ (args.toList.map (unw (sev τ))) (args.toList.map a.eval) :=
        RL.mapR _ _ _ (fun x hx => needs_spec rfl hn x (by simp [opNeeds, ho]; right; simpa using hx) (R_sev ht x))
      obtain ⟨_, hy⟩ := hΓ (.yield l) _ H h
      obtain ⟨fn, tmps, as, b, hrun, hround⟩ := hy g ρ w _ rfl hs hargs
      simp only [Region.wanted, hg, if_true]
      refine ⟨fun _ _ => trivial, ?_⟩
      rw [Oper.semAt_eq _ _ _ (noDef_spec hd)]
      have hex : (execOp a.eval o).run P w = .ok (.round l fn tmps as b) w := by
        unfold execOp
        simp only [ho, resolve, hv, Deferred.ofValue, Sem.run_bind, Sem.run_pure, Result.andThen_ok, invoke]
        rw [← hrun]
        congr 2
        apply Array.ext'
        simp
      rw [hex]
      refine ⟨fun e => by simp [FR, Fence.wide] at e, roundIn_FR (hround.mono fun e w' ⟨ρ', x, he, k1, k2, k3⟩ => ?_)⟩
      subst he
      exact hK ρ' _ w' x k1 k2 k3 rfl
    · rename_i hno
      refine plain h ?_
      split at hK
      · rename_i l hf; exact absurd hf (hno l)
      · exact hK
  · rename_i hno
    refine plain h ?_
    split at hK
    · rename_i f args at' hg ho; exact absurd ho (hno f args at' hg)
    · exact hK

theorem srunY_sound {P : Program} {g : G} {Γ : Con} {ops : List Oper} (hΓ : Con.Sound P g.E Γ) {Q : Exit → Act → World → Prop} (hQ : ¬ LetsOut Q) {rd : Option Nat} {n : Nat} : ∀ (r : List Oper) (acc : Prop) (ρ : Env) (τ : List SV) (H : List AB) (a : Act) (w : World),
    r.all noDef = true → Sat g ρ H w → RL ρ τ a.tmps.toList → (srunY P g.E Γ ops r acc τ H).pre →
    (∀ ρ' a' w', Env.le ρ ρ' → Sat g ρ' (srunY P g.E Γ ops r acc τ H).hp w' → RL ρ' (srunY P g.E Γ ops r acc τ H).tm a'.tmps.toList → a'.defers = a.defers → Q .normal a' w') →
    wpListIn (FR rd) n P ops.toArray Q r a w
  | [], acc, ρ, τ, H, a, w, _, hs, ht, _, hK => hK ρ a w (Env.le_refl _) hs ht rfl
  | o :: r, acc, ρ, τ, H, a, w, hd, hs, ht, h, hK => by
    simp only [List.all_cons, Bool.and_eq_true] at hd
    simp only [srunY] at h hK
    have hpre : (stepY P g.E Γ ops o τ H).pre := by
      generalize stepY P g.E Γ ops o τ H = s at h
      obtain ⟨p, v, H'⟩ := s
      exact (srunY_acc P g.E Γ ops r _ _ _ h).2
    exact wp_op_stepY (K := wpListIn (FR rd) n P ops.toArray Q r) (Q := Q) hs hΓ ht hd.1 hpre hQ (fun ρ' a' w' x h1 h2 h3 h4 => by
      subst h4
      generalize stepY P g.E Γ ops o τ H = s at h hK h2 h3
      obtain ⟨p, v, H'⟩ := s
      exact srunY_sound hΓ hQ r _ ρ' _ H' _ w' hd.2 h2 (RL_put (RL.mono h1 _ _ ht) _ _ _ h3) h (fun ρ'' a'' w'' k1 k2 k3 k4 => hK ρ'' a'' w'' (Env.le_trans h1 k1) k2 k3 (k4.trans (put_defers _ _ _))))

end Go.Proofs.Ytmnpnnegnlhemaa.Eng
namespace Go.Proofs.Ytmnpnnegnlhemaa.Eng
open Go

theorem hget_eq : ∀ (H : List AB) (i : Nat), hget H i = (H[i]?).getD .dead
  | [], _ => by simp [hget]
  | a :: _, 0 => by simp [hget]
  | _ :: l, n + 1 => by simp [hget, hget_eq l n]

/-- Where an old index lies now (the last place). -/
def posG (j : Nat) : List Nat → Nat → Option Nat
  | [], _ => none
  | i :: l, k => match posG j l (k + 1) with
    | some r => some r
    | none => match decide (i = j) with
      | true => some k
      | false => none

def memB (j : Nat) : List Nat → Bool
  | [] => false
  | i :: l => match decide (i = j) with
    | true => true
    | false => memB j l

theorem posG_spec {j : Nat} : ∀ {l : List Nat} {k r : Nat}, posG j l k = some r → k ≤ r ∧ l[r - k]? = some j
  | [], _, _, h => by simp [posG] at h
  | i :: l, k, r, h => by
    simp only [posG] at h
    split at h
    · rename_i r' e
      cases h
      obtain ⟨h1, h2⟩ := posG_spec e
      refine ⟨by omega, ?_⟩
      rw [show r - k = (r - (k + 1)) + 1 by omega]
      simpa using h2
    · split at h
      · rename_i e
        cases h
        simp at e
        simp [e]
      · cases h

theorem memB_spec {j : Nat} : ∀ {l : List Nat}, memB j l = false → j ∉ l
  | [], _ => by simp
  | i :: l, h => by
    simp only [memB] at h
    split at h
    · cases h
    · rename_i e
      simp at e
      simp only [List.mem_cons, not_or]
      exact ⟨fun q => e q.symm, memB_spec h⟩

def jp (q : Option Nat) (f : Nat → SV) : SV := match q with
  | some k => f k
  | none => .junk

mutual
def renJ (σ : List Nat) : SV → SV
  | .junk => .junk
  | .raw v => .raw v
  | .opt g v => .opt g (renJ σ v)
  | .ptr i o => jp (posG i σ 0) fun k => .ptr k o
  | .pel i sz k j => jp (posG i σ 0) fun r => .pel r sz k j
  | .lst i sz off len => jp (posG i σ 0) fun r => .lst r sz off len
  | .mapv i => jp (posG i σ 0) fun r => .mapv r
  | .fn f a b => .fn f (renJs σ a) (renJs σ b)
  | .agg l => .agg (renJs σ l)
  | .tup l => .tup (renJs σ l)
def renJs (σ : List Nat) : List SV → List SV
  | [] => []
  | s :: l => renJ σ s :: renJs σ l
end

def Env.mv (ρ : Env) (σ : List Nat) : Env := fun i => match σ[i]? with
  | some j => ρ j
  | none => none

theorem mv_pos {ρ : Env} {σ : List Nat} {i k : Nat} (h : posG i σ 0 = some k) : (ρ.mv σ) k = ρ i := by
  have := (posG_spec h).2
  simp only [Nat.sub_zero] at this
  unfold Env.mv
  rw [this]

mutual
theorem R_renJ (ρ : Env) (σ : List Nat) : ∀ (s : SV) (x : Value), R ρ s x → R (ρ.mv σ) (renJ σ s) x
  | .junk, _, _ => by simp only [renJ, R]
  | .raw v, _, h => by simpa only [renJ, R] using h
  | .opt g v, x, h => by
    simp only [renJ, R] at h ⊢
    exact ⟨fun hg => R_renJ ρ σ v x (h.1 hg), h.2⟩
  | .ptr i o, x, h => by
    simp only [renJ]
    cases e : posG i σ 0 with
    | none => simp only [jp, R]
    | some k => simp only [jp, R] at h ⊢; rw [mv_pos e]; exact h
  | .pel i sz k j, x, h => by
    simp only [renJ]
    cases e : posG i σ 0 with
    | none => simp only [jp, R]
    | some r => simp only [jp, R] at h ⊢; rw [mv_pos e]; exact h
  | .lst i sz off len, x, h => by
    simp only [renJ]
    cases e : posG i σ 0 with
    | none => simp only [jp, R]
    | some r => simp only [jp, R] at h ⊢; rw [mv_pos e]; exact h
  | .mapv i, x, h => by
    simp only [renJ]
    cases e : posG i σ 0 with
    | none => simp only [jp, R]
    | some r => simp only [jp, R] at h ⊢; rw [mv_pos e]; exact h
  | .fn f a b, x, h => by
    simp only [renJ, R] at h ⊢
    obtain ⟨u, v, h1, h2, h3⟩ := h
    exact ⟨u, v, h1, RL_renJ ρ σ a _ h2, RL_renJ ρ σ b _ h3⟩
  | .agg l, x, h => by
    simp only [renJ, R] at h ⊢
    obtain ⟨u, h1, h2⟩ := h
    exact ⟨u, h1, RL_renJ ρ σ l _ h2⟩
  | .tup l, x, h => by
    simp only [renJ, R] at h ⊢
    obtain ⟨u, h1, h2⟩ := h
    exact ⟨u, h1, RL_renJ ρ σ l _ h2⟩
theorem RL_renJ (ρ : Env) (σ : List Nat) : ∀ (l : List SV) (r : List Value), RL ρ l r → RL (ρ.mv σ) (renJs σ l) r
  | [], [], _ => by simp only [renJs, RL]
  | s :: l, v :: r, h => by
    simp only [renJs, RL] at h ⊢
    exact ⟨R_renJ ρ σ s v h.1, RL_renJ ρ σ l r h.2⟩
  | [], _ :: _, h => by simp only [RL] at h
  | _ :: _, [], h => by simp only [RL] at h
end

def renJEnts (σ : List Nat) : List (Value × SV) → List (Value × SV)
  | [] => []
  | (k, s) :: l => (k, renJ σ s) :: renJEnts σ l

theorem renJEnts_length (σ : List Nat) : ∀ l, (renJEnts σ l).length = l.length
  | [] => rfl
  | (_, _) :: l => by simp [renJEnts, renJEnts_length σ l]

theorem REnts_renJ (ρ : Env) (σ : List Nat) : ∀ (q : Nat) (l : List (Value × SV)) (r : List MapEntry), REnts ρ q l r → REnts (ρ.mv σ) q (renJEnts σ l) r
  | _, [], [], _ => by simp only [renJEnts, REnts]
  | q, (k, s) :: l, e :: r, h => by
    simp only [renJEnts, REnts] at h ⊢
    exact ⟨h.1, R_renJ ρ σ s _ h.2.1, h.2.2.1, REnts_renJ ρ σ (q + 1) l r h.2.2.2⟩
  | _, [], _ :: _, h => by simp only [REnts] at h
  | _, (_, _) :: _, [], h => by simp only [REnts] at h

theorem renJs_get (σ : List Nat) : ∀ (l : List SV) (j : Nat), (renJs σ l)[j]? = (l[j]?).map (renJ σ)
  | [], _ => by simp [renJs]
  | s :: l, 0 => by simp [renJs]
  | s :: l, j + 1 => by simp [renJs, renJs_get σ l j]

def renJB (σ : List Nat) : AB → AB
  | .dead => .dead
  | .hole => .hole
  | .cells cs t => .cells (renJs σ cs) t
  | .lst n sz f t => .lst n sz (fun k => renJs σ (f k)) t
  | .map es => .map (renJEnts σ es)
  | .lrec b τ l => .lrec b (renJs σ τ) l

theorem BSat_renJ {ρ : Env} {σ : List Nat} {i j : Nat} {w : World} (hij : (ρ.mv σ) i = ρ j) : ∀ {a : AB}, BSat ρ j w a → BSat (ρ.mv σ) i w (renJB σ a) := by
  intro a h
  cases a with
  | dead => trivial
  | hole => exact hij.trans h
  | cells cs t =>
    obtain ⟨b, c, ar, h1, h2, h3⟩ := h
    exact ⟨b, c, ar, hij.trans h1, h2, RL_renJ ρ σ _ _ h3⟩
  | lst n sz f t =>
    rcases h with ⟨h1, h2⟩ | ⟨b, c, ar, h1, h2, h3, h4, h5⟩
    · exact .inl ⟨h1, hij.trans h2⟩
    · refine .inr ⟨b, c, ar, hij.trans h1, h2, h3, h4, fun k q s hk hq hf => ?_⟩
      rw [renJs_get] at hf
      cases he : (f k)[q]? with
      | none => rw [he] at hf; cases hf
      | some s' =>
        rw [he] at hf
        cases hf
        obtain ⟨x, hx, hr⟩ := h5 k q s' hk hq he
        exact ⟨x, hx, R_renJ ρ σ _ _ hr⟩
  | map es =>
    obtain ⟨b, c, l, h1, h2, h3⟩ := h
    exact ⟨b, c, l, hij.trans h1, by rw [renJEnts_length]; exact h2, REnts_renJ ρ σ _ _ _ h3⟩
  | lrec b τ l =>
    obtain ⟨c, t, h1, h2, h3⟩ := h
    exact ⟨c, t, hij.trans h1, h2, RL_renJ ρ σ _ _ h3⟩

theorem renJB_live {σ : List Nat} {a : AB} : (renJB σ a).live = a.live := by cases a <;> rfl

def hgetO : List AB → Nat → AB
  | [], _ => .hole
  | a :: _, 0 => a
  | _ :: l, n + 1 => hgetO l n

theorem hgetO_eq : ∀ (H : List AB) (i : Nat), hgetO H i = (H[i]?).getD .hole
  | [], _ => by simp [hgetO]
  | a :: _, 0 => by simp [hgetO]
  | _ :: l, n + 1 => by simp [hgetO, hgetO_eq l n]

def mvH (h : List AB) (σ : List Nat) : List Nat → List AB
  | [] => []
  | i :: l => (match memB i l with | true => .dead | false => renJB σ (hgetO h i)) :: mvH h σ l

theorem mvH_get {h : List AB} {σ : List Nat} : ∀ {l : List Nat} {k : Nat} {ab : AB}, (mvH h σ l)[k]? = some ab → ∃ i, l[k]? = some i ∧ (ab = .dead ∨ (ab = renJB σ (hgetO h i) ∧ i ∉ l.drop (k + 1)))
  | [], _, _, e => by simp [mvH] at e
  | i :: l, 0, ab, e => by
    simp only [mvH, List.getElem?_cons_zero, Option.some.injEq] at e
    refine ⟨i, by simp, ?_⟩
    cases hm : memB i l with
    | true => rw [hm] at e; exact .inl e.symm
    | false => rw [hm] at e; exact .inr ⟨e.symm, by simpa using memB_spec hm⟩
  | i :: l, k + 1, ab, e => by
    simp only [mvH, List.getElem?_cons_succ] at e
    simpa using mvH_get e

theorem mvH_length {h : List AB} {σ : List Nat} : ∀ {l : List Nat}, (mvH h σ l).length = l.length
  | [] => rfl
  | _ :: l => by simp [mvH, mvH_length (l := l)]

theorem mvH_live {h : List AB} {σ l : List Nat} {k : Nat} {ab : AB} (e : (mvH h σ l)[k]? = some ab) (hv : ab.live = true) : ∃ i a, l[k]? = some i ∧ h[i]? = some a ∧ a.live = true ∧ ab = renJB σ a ∧ i ∉ l.drop (k + 1) := by
  obtain ⟨i, h1, h2 | ⟨h2, h3⟩⟩ := mvH_get e
  · subst h2; cases hv
  · have hv' : (hgetO h i).live = true := by rw [h2, renJB_live] at hv; exact hv
    have hg : h[i]? = some (hgetO h i) := by
      rw [hgetO_eq] at hv' ⊢
      cases hh : h[i]? with
      | none => rw [hh] at hv'; cases hv'
      | some a => rfl
    exact ⟨i, _, h1, hg, hv', h2, h3⟩

theorem Sat.mv {g : G} {ρ : Env} {h : List AB} {w : World} (hs : Sat g ρ h w) (σ : List Nat) : Sat g (ρ.mv σ) (mvH h σ σ) w := by
  have at' : ∀ {k i : Nat}, σ[k]? = some i → (ρ.mv σ) k = ρ i := fun e => by simp [Env.mv, e]
  refine ⟨hs.os, hs.tape, hs.output, hs.size, hs.keep, ?_, ?_, ?_, ?_, ?_, ?_⟩
  · intro k ab e
    obtain ⟨i, h1, rfl | ⟨rfl, _⟩⟩ := mvH_get e
    · trivial
    · rw [hgetO_eq]
      cases hh : h[i]? with
      | none =>
        show (ρ.mv σ) k = none
        rw [at' h1]
        refine hs.out i ?_
        rcases Nat.lt_or_ge i h.length with q | q
        · rw [List.getElem?_eq_getElem q] at hh; cases hh
        · exact q
      | some a => exact BSat_renJ (at' h1) (hs.blk i a hh)
  · intro k ab b c e hv hr
    obtain ⟨i, a, h1, h2, h3, _, _⟩ := mvH_live e hv
    rw [at' h1] at hr
    exact hs.own i a b c h2 h3 hr
  · intro k ab b c e hv hr
    obtain ⟨i, a, h1, h2, h3, _, _⟩ := mvH_live e hv
    rw [at' h1] at hr
    exact hs.lt i a b c h2 h3 hr
  · intro k k' ab ab' b c d e e' hv hv' hr hr'
    obtain ⟨i, a, h1, h2, h3, _, h4⟩ := mvH_live e hv
    obtain ⟨i', a', k1, k2, k3, _, k4⟩ := mvH_live e' hv'
    rw [at' h1] at hr
    rw [at' k1] at hr'
    have hi := hs.inj i i' a a' b c d h2 k2 h3 k3 hr hr'
    subst hi
    rcases Nat.lt_trichotomy k k' with q | q | q
    · exfalso; apply h4; rw [List.mem_iff_getElem?]; exact ⟨k' - (k + 1), by rw [List.getElem?_drop]; rw [show k + 1 + (k' - (k + 1)) = k' by omega]; exact k1⟩
    · exact q
    · exfalso; apply k4; rw [List.mem_iff_getElem?]; exact ⟨k - (k' + 1), by rw [List.getElem?_drop]; rw [show k' + 1 + (k - (k' + 1)) = k by omega]; exact h1⟩
  · intro k hk
    rw [mvH_length] at hk
    simp [Env.mv, List.getElem?_eq_none hk]
  · intro a v e
    refine ⟨(hs.ro a v e).1, (hs.ro a v e).2.1, fun k ab b c e' hv hr => ?_⟩
    obtain ⟨i, a', h1, h2, h3, _, _⟩ := mvH_live e' hv
    rw [at' h1] at hr
    exact (hs.ro a v e).2.2 i a' b c h2 h3 hr

theorem Spare.mv {g : G} {ρ : Env} {h : List AB} {w : World} {d : Nat} (hs : Spare g ρ h w d) (σ : List Nat) : Spare g (ρ.mv σ) (mvH h σ σ) w d := by
  refine ⟨hs.size, hs.lt, fun k ab b c e hv hr => ?_, hs.ro⟩
  obtain ⟨i, a, h1, h2, h3, _, _⟩ := mvH_live e hv
  have : (ρ.mv σ) k = ρ i := by simp [Env.mv, h1]
  rw [this] at hr
  exact hs.free i a b c h2 h3 hr

theorem Spare.narrow {g : G} {ρ : Env} {H H' : List AB} {w : World} {d : Nat} (h : Spare g ρ H w d) (hs : Sat g ρ H w) (hk : hwk H'.length H' H) : Spare g (ρ.cut H'.length) H' w d := by
  obtain ⟨_, hget⟩ := hwk_get hk
  refine ⟨h.size, h.lt, fun i ab' b c hi hv hr => ?_, h.ro⟩
  have hi' : i < H'.length := by
    rcases Nat.lt_or_ge i H'.length with q | q
    · exact q
    · rw [List.getElem?_eq_none q] at hi; cases hi
  rw [Env.cut_lt hi'] at hr
  obtain ⟨ab, ha, hb⟩ := hget i ab' hi
  rcases (bwk_sat hi' hb (hs.blk i ab ha)).2 with rfl | e | e
  · cases hv
  · exact h.free i ab b c ha (e ▸ hv) hr
  · rw [e] at hr; cases hr

theorem mv_le {ρ0 ρ : Env} {N : Nat} {σ : List Nat} (hN : ∀ i, N ≤ i → ρ0 i = none) (hle : Env.le ρ0 ρ) (hσ : σ.take N = List.range N) : Env.le ρ0 (ρ.mv σ) := by
  intro i x e
  have hi : i < N := by
    rcases Nat.lt_or_ge i N with q | q
    · exact q
    · rw [hN i q] at e; cases e
  have : σ[i]? = some i := by
    have h1 : (σ.take N)[i]? = some i := by rw [hσ]; simp [hi]
    rw [List.getElem?_take] at h1
    simpa [hi] using h1
  show (match σ[i]? with | some j => ρ j | none => none) = some x
  rw [this]
  exact hle i x e

end Go.Proofs.Ytmnpnnegnlhemaa.Eng
namespace Go.Proofs.Ytmnpnnegnlhemaa.Eng
open Go

def pl0 : Nat → List (List Nat × Nat) := fun _ => []

inductive Ex where
  | normal
  | exit (id : Nat)
  | ret

inductive Kt where
  | seq (c : Code)
  | blk (id : Nat)

inductive Cmd where
  | run (c : Code) (k : List Kt)
  | pop (e : Ex) (k : List Kt)

abbrev Fin := Ex → List SV → List AB → Prop
abbrev Plan := List (List Nat × Nat)

/-- From here on these slots and this heap are all that is known. -/
def Nw (N : Nat) (T : List SV) (H' : List AB) (t : List SV) (h : List AB) : Prop := N ≤ H'.length ∧ hwk H'.length H' h ∧ wk T t ∧ scs H'.length T = true

/-- The same, perhaps with the blocks at new places. -/
def NwO (N : Nat) (o : Option (List Nat)) (T : List SV) (H' : List AB) (t : List SV) (h : List AB) : Prop :=
  match o with
  | none => Nw N T H' t h
  | some σ => σ.take N = List.range N ∧ Nw N T H' (renJs σ t) (mvH h σ σ)

def LoopP (N : Nat) (e : Fin → Cmd → List SV → List AB → Prop) (q : Fin) (c : Code) (τ : List SV) (H : List AB) : Prop :=
  ∃ (α : Type) (T : α → List SV) (Hp : α → List AB) (I : α → Prop) (m : α → Nat) (s0 : α), I s0 ∧ (∃ o, NwO N o (T s0) (Hp s0) τ H) ∧
    ∀ s, I s → ∀ F' : Fin, (∀ o s' t h, I s' → m s' < m s → NwO N o (T s') (Hp s') t h → F' .normal t h) → (∀ x t h, x ≠ .normal → q x t h → F' x t h) → e F' (.run c []) (T s) (Hp s)

def selC (p q : List SV → List AB → Prop) : SV → List SV → List AB → Prop
  | .raw (.bool b), τ, H => match b with
    | true => p τ H
    | false => q τ H
  | _, _, _ => False

def regC (q : List SV → List AB → Prop) : St → Prop
  | ⟨p, τ, H⟩ => p ∧ q τ H

def exitC (p q : List SV → List AB → Prop) : Bool → List SV → List AB → Prop
  | true, τ, H => p τ H
  | false, τ, H => q τ H

/-- A loop's record in another state. -/
def rto (r : Loop) (s : LoopState) (p : Option Code) : Loop := { r with state := s, pending := p }
theorem rto_state (r : Loop) (s : LoopState) (p : Option Code) : (rto r s p).state = s := rfl
theorem rto_pending (r : Loop) (s : LoopState) (p : Option Code) : (rto r s p).pending = p := rfl
theorem rto_rto (r : Loop) (s s' : LoopState) (p p' : Option Code) : rto (rto r s p) s' p' = rto r s' p' := rfl

def jumpP (q : Fin) (τ : List SV) (H : List AB) : Option Code → Prop
  | none => q .normal τ H
  | some .ret => q .ret τ H
  | some (.exit id) => q (.exit id) τ H
  | _ => False

section
variable (P : Program) (E : Addr → Option Value) (Γ : Con) (pl : Nat → Plan) (N : Nat)

def rangeP (q : Fin) (g : Operand) (ps : Array Tmp) (as b : Code) (τ : List SV) (H : List AB) : SV → Prop
  | .fn (.func f) first cap => needs (sev τ) true [g] ∧ ∀ (l d fid : Nat) (r : Loop), r = ⟨.ready, none, fid, #[], ps, as, b, d⟩ →
      ∃ v H2 τ2 r2, Ok P E f (first ++ [.fn (.yield l) [] []] ++ cap) (H ++ [.lrec l τ r]) v H2 ∧ hget H2 H.length = .lrec l τ2 r2 ∧ r2.state ≠ .busy ∧ jumpP q τ (hset H2 H.length .dead) r2.pending
  | _ => False

def drawSt (plan : Plan) (ops : List Oper) (τ : List SV) (H : List AB) : St :=
  ⟨preL P E Γ ops H.length τ (H ++ holes ops) ops.length ∧ chkL P E Γ ops H.length τ (H ++ holes ops) plan,
    (pref P E Γ ops H.length τ (H ++ holes ops) ops.length).1, (pref P E Γ ops H.length τ (H ++ holes ops) ops.length).2⟩

def popF (e : Cmd → List SV → List AB → Prop) (k : List Kt) : Fin := fun x => e (.pop x k)

def litSt (plan : Plan) (ops : List Oper) (τ : List SV) (H : List AB) : St := match plan with
  | [] => srunA P E Γ ops ops True τ H
  | _ :: _ => srunY P E Γ ops ops True τ H

def eng : Nat → Fin → Cmd → List SV → List AB → Prop
  | 0, _, _, _, _ => False
  | n + 1, F, .run c k, τ, H => match c with
    | .skip => eng n F (.pop .normal k) τ H
    | .seq a b => eng n F (.run a (.seq b :: k)) τ H
    | .block id c => eng n F (.run c (.blk id :: k)) τ H
    | .exit id => eng n F (.pop (.exit id) k) τ H
    | .ret => F .ret τ H
    | .cond c a b => needs (sev τ) true [c] ∧ selC (eng n F (.run a k)) (eng n F (.run b k)) (unw (sev τ) c) τ H
    | .region id ops d => regC (eng n F (.pop .normal k)) (match d with
      | false => litSt P E Γ (pl id) ops.toList τ H
      | true => drawSt P E Γ (pl id) ops.toList τ H)
    | .loop c => LoopP N (eng n) (popF (eng n F) k) c τ H
    | .rangeFunc g ps as b => rangeP P E (popF (eng n F) k) g ps as b τ H (unw (sev τ) g)
    | _ => False
  | n + 1, F, .pop e k, τ, H => match e, k with
    | .ret, _ => F .ret τ H
    | e, [] => F e τ H
    | .normal, .seq c :: k => eng n F (.run c k) τ H
    | .normal, .blk _ :: k => eng n F (.pop .normal k) τ H
    | .exit j, .seq _ :: k => eng n F (.pop (.exit j) k) τ H
    | .exit j, .blk id :: k => exitC (eng n F (.pop .normal k)) (eng n F (.pop (.exit j) k)) (j == id) τ H

/-- The drawn regions of a code, each with its plan; no deferred calls; a range over a function just where it may stand. -/
def plansOk (rf : Bool) : Code → Bool
  | .seq a b => plansOk rf a && plansOk rf b
  | .cond _ a b => plansOk rf a && plansOk rf b
  | .block _ c => plansOk rf c
  | .loop c => plansOk rf c
  | .region id ops d => ops.toList.all noDef && (match d with | true => statOk ops.toList && pl id == mkPlan ops.toList | false => true)
  | .rangeFunc _ _ _ _ => rf
  | _ => true
end

def exOf : Ex → Exit
  | .normal => .normal
  | .exit id => .exit id
  | .ret => .ret

def QK (P : Program) (rd : Option Nat) (Q : Exit → Act → World → Prop) : List Kt → Exit → Act → World → Prop
  | [] => Q
  | .seq c :: k => Exit.then (c.wpIn (FR rd) 0 P (QK P rd Q k)) (QK P rd Q k)
  | .blk id :: k => Exit.inBlock id (QK P rd Q k)

def kOk (rf : Bool) (pl : Nat → Plan) : List Kt → Bool
  | [] => true
  | .seq c :: k => plansOk pl rf c && kOk rf pl k
  | .blk _ :: k => kOk rf pl k

theorem QK_ret {P : Program} {rd : Option Nat} {Q : Exit → Act → World → Prop} {a : Act} {w : World} (h : Q .ret a w) : ∀ k, QK P rd Q k .ret a w
  | [] => h
  | .seq _ :: k => QK_ret h k
  | .blk _ :: k => QK_ret h k

theorem wpIn_loop_ex {P : Program} {F : Fence} {n : Nat} {β : Type} {c : Code} {Q : Exit → Act → World → Prop} (I : β → Act → World → Prop) (m : β → Nat)
    (round : ∀ s a w, I s a w → c.wpIn F n P (Exit.then (fun a' w' => ∃ s', I s' a' w' ∧ m s' < m s) Q) a w) {s0 : β} {a : Act} {w : World} (h0 : I s0 a w) : (Code.loop c).wpIn F n P Q a w := by
  intro b k cs hro hb hr
  have key : ∀ j s a w, m s = j → I s a w → ∃ e a' w', Q e a' w' ∧ ArrivesIn (Machine.fenced P F) P (lone (b.atR a (.code c :: .inLoop c :: k)) cs w) b k cs e a' w' := by
    intro j
    induction j using Nat.strongRecOn with
    | _ j ih =>
      intro s a w hn hI
      obtain ⟨e, a₁, w₁, hq, harr⟩ := round s a w hI b (.inLoop c :: k) cs hro hb hr
      cases e with
      | normal =>
        obtain ⟨s', hI₁, hlt⟩ := hq
        obtain ⟨e₂, a₂, w₂, hq₂, harr₂⟩ := ih (m s') (hn ▸ hlt) s' a₁ w₁ rfl hI₁
        exact ⟨e₂, a₂, w₂, hq₂, .of_steps (StepsIn.trans harr (.one (fenced_calm hb hr rfl) stepR_inLoop)) harr₂⟩
      | exit id => exact ⟨_, a₁, w₁, hq, .pass (x := .inLoop c) rfl (fun _ _ => .inl (by simp)) harr⟩
      | goto l => exact ⟨_, a₁, w₁, hq, .pass (x := .inLoop c) rfl (fun _ _ => .inl (by simp)) harr⟩
      | ret => exact ⟨_, a₁, w₁, hq, .pass (x := .inLoop c) rfl (fun _ _ => .inl (by simp)) harr⟩
      | panic ch => exact ⟨_, a₁, w₁, hq, .pass (x := .inLoop c) rfl (fun _ _ => .inl (by simp)) harr⟩
      | outgrown => exact ⟨_, a₁, w₁, hq, .pass (x := .inLoop c) rfl (fun _ _ => .inl (by simp)) harr⟩
  obtain ⟨e, a', w', hq, harr⟩ := key _ s0 a w rfl h0
  exact ⟨e, a', w', hq, .of_steps (.one (fenced_calm hb hr rfl) stepR_loop) harr⟩

/-- The marks of the ranges over functions that are behind us. -/
def Marks (g : G) (ρ : Env) (H : List AB) (w : World) : List Deferred → Prop
  | [] => True
  | x :: l => (∃ d, x = { target := .collected d, args := #[] } ∧ Spare g ρ H w d ∧ w.heap[d]? = some (.deferred (some [])) ∧ ∀ d', ({ target := .collected d', args := #[] } : Deferred) ∈ l → d' ≠ d) ∧ Marks g ρ H w l

theorem Marks.map {g : G} {ρ ρ' : Env} {H H' : List AB} {w w' : World} : ∀ {l : List Deferred}, (∀ d, ({ target := .collected d, args := #[] } : Deferred) ∈ l → Spare g ρ H w d → Spare g ρ' H' w' d ∧ w'.heap[d]? = w.heap[d]?) → Marks g ρ H w l → Marks g ρ' H' w' l
  | [], _, _ => trivial
  | x :: l, hf, h => by
    obtain ⟨⟨d, rfl, h1, h2, h3⟩, h4⟩ := h
    obtain ⟨k1, k2⟩ := hf d (by simp) h1
    exact ⟨⟨d, rfl, k1, k2.trans h2, h3⟩, h4.map fun d' hd' => hf d' (by simp [hd'])⟩

theorem Marks.spare {g : G} {ρ : Env} {H : List AB} {w : World} {d : Nat} : ∀ {l : List Deferred}, Marks g ρ H w l → ({ target := .collected d, args := #[] } : Deferred) ∈ l → Spare g ρ H w d
  | [], _, h => by simp at h
  | x :: l, h, hm => by
    obtain ⟨⟨d', rfl, h1, h2, h3⟩, h4⟩ := h
    rcases List.mem_cons.1 hm with e | hm
    · cases e; exact h1
    · exact h4.spare hm

/-- What the model's frame and world have to do with the engine's. -/
structure Rel (g : G) (ρ0 : Env) (ρ : Env) (τ : List SV) (H : List AB) (a : Act) (w : World) : Prop where
  sat : Sat g ρ H w
  tm : RL ρ τ a.tmps.toList
  marks : Marks g ρ H w a.defers
  le : Env.le ρ0 ρ

theorem Rel.step {g : G} {ρ0 ρ ρ' : Env} {τ τ' : List SV} {H H' : List AB} {a a' : Act} {w w' : World} (h : Rel g ρ0 ρ τ H a w) (k1 : Env.le ρ ρ') (k2 : Sat (G.of g.E ρ H w) ρ' H' w') (k3 : RL ρ' τ' a'.tmps.toList) (k4 : a'.defers = a.defers) : Rel g ρ0 ρ' τ' H' a' w' :=
  ⟨h.sat.comp k2, k3, by rw [k4]; exact h.marks.map fun d _ hd => hd.comp k2, Env.le_trans h.le k1⟩

theorem Rel.narrow {g : G} {ρ0 ρ : Env} {N : Nat} {τ T : List SV} {H H' : List AB} {a : Act} {w : World} (h : Rel g ρ0 ρ τ H a w) (hN : ∀ i, N ≤ i → ρ0 i = none) (hn : Nw N T H' τ H) :
    Rel g ρ0 (ρ.cut H'.length) T H' a w := by
  obtain ⟨h1, h2, h3, h4⟩ := hn
  refine ⟨h.sat.narrow h2, RL.cut _ _ h4 (RL.wk h3 h.tm), h.marks.map fun d _ hd => ⟨hd.narrow h.sat h2, rfl⟩, fun i x e => ?_⟩
  have hi : i < N := by
    rcases Nat.lt_or_ge i N with q | q
    · exact q
    · rw [hN i q] at e; cases e
  rw [Env.cut_lt (by omega)]
  exact h.le i x e

theorem Rel.mv {g : G} {ρ0 ρ : Env} {N : Nat} {τ : List SV} {H : List AB} {a : Act} {w : World} (h : Rel g ρ0 ρ τ H a w) (hN : ∀ i, N ≤ i → ρ0 i = none) {σ : List Nat} (hσ : σ.take N = List.range N) :
    Rel g ρ0 (ρ.mv σ) (renJs σ τ) (mvH H σ σ) a w :=
  ⟨h.sat.mv σ, RL_renJ ρ σ _ _ h.tm, h.marks.map fun _d _ hd => ⟨hd.mv σ, rfl⟩, mv_le hN h.le hσ⟩

theorem Rel.narrowO {g : G} {ρ0 ρ : Env} {N : Nat} {τ T : List SV} {H H' : List AB} {a : Act} {w : World} (h : Rel g ρ0 ρ τ H a w) (hN : ∀ i, N ≤ i → ρ0 i = none) {o : Option (List Nat)} (hn : NwO N o T H' τ H) :
    ∃ ρ', Rel g ρ0 ρ' T H' a w := by
  cases o with
  | none => exact ⟨_, h.narrow hN hn⟩
  | some σ => exact ⟨_, (h.mv hN hn.1).narrow hN hn.2⟩

theorem holes_sat {g : G} {ρ : Env} {H : List AB} {w : World} (h : Sat g ρ H w) (ops : List Oper) : Sat g ρ (H ++ holes ops) w := by
  have hh : ∀ (l : List Oper), ∀ ab ∈ holes l, ab = .hole := by
    intro l
    induction l with
    | nil => simp [holes]
    | cons o l ih =>
      intro ab hm
      unfold holes at hm
      split at hm
      · rcases List.mem_cons.1 hm with rfl | hm
        · rfl
        · exact ih ab hm
      · exact ih ab hm
  have cases' : ∀ (i : Nat) (ab : AB), (H ++ holes ops)[i]? = some ab → H[i]? = some ab ∨ (ab = .hole ∧ H.length ≤ i) := by
    intro i ab hi
    by_cases q : i < H.length
    · rw [List.getElem?_append_left q] at hi; exact .inl hi
    · rw [List.getElem?_append_right (by omega)] at hi
      exact .inr ⟨hh ops ab (List.mem_of_getElem? hi), by omega⟩
  have live' : ∀ (i : Nat) (ab : AB), (H ++ holes ops)[i]? = some ab → ab.live = true → H[i]? = some ab := by
    intro i ab hi hv
    rcases cases' i ab hi with q | ⟨rfl, _⟩
    · exact q
    · cases hv
  refine ⟨h.os, h.tape, h.output, h.size, h.keep, ?_, ?_, ?_, ?_, ?_, ?_⟩
  · intro i ab hi
    rcases cases' i ab hi with q | ⟨rfl, q⟩
    · exact h.blk i ab q
    · exact h.out i q
  · intro i ab b c hi hv hr; exact h.own i ab b c (live' _ _ hi hv) hv hr
  · intro i ab b c hi hv hr; exact h.lt i ab b c (live' _ _ hi hv) hv hr
  · intro i j ai aj b c d hi hj hvi hvj hri hrj; exact h.inj i j ai aj b c d (live' _ _ hi hvi) (live' _ _ hj hvj) hvi hvj hri hrj
  · intro i hi; exact h.out i (by simp at hi; omega)
  · intro a v e; exact ⟨(h.ro a v e).1, (h.ro a v e).2.1, fun i ab b c hi hv hr => (h.ro a v e).2.2 i ab b c (live' _ _ hi hv) hv hr⟩

theorem drawn_soundIn {P : Program} {g : G} {Γ : Con} {ops : List Oper} {b : Nat} {τ0 : List SV} {H0 : List AB} {rd : Option Nat} {n : Nat} (hm : P.follows .mixedOrders = true) (hd : ops.all noDef = true) (hst : statOk ops = true) {plan : List (List Nat × Nat)} (hpl : plan = mkPlan ops) (hΓ : Con.Sound P g.E Γ) {ρ0 : Env} {a : Act} {w : World} {Q : Exit → Act → World → Prop} (hQo : ¬ LetsOut Q) {id : Nat}
    (hs : Sat g ρ0 H0 w) (ht : RL ρ0 τ0 a.tmps.toList)
    (hp : preL P g.E Γ ops b τ0 H0 ops.length) (hch : chkL P g.E Γ ops b τ0 H0 plan)
    (hQ : ∀ ρ a' w', Env.le ρ0 ρ → Sat g ρ (pref P g.E Γ ops b τ0 H0 ops.length).2 w' → RL ρ (pref P g.E Γ ops b τ0 H0 ops.length).1 a'.tmps.toList → a'.defers = a.defers → Q .normal a' w') :
    (Code.region id ops.toArray true).wpIn (FR rd) n P Q a w := by
  refine wpIn_region_any hm (any_in hQo hd _ _ _ _ (inv_any rfl (stat_of hst) hpl hΓ hp hch hQ _ _ _ _ ?_ ?_))
  · have h0 : ∀ j, onL (Array.replicate ops.toArray.size false) j = false := by
      intro j; unfold onL
      by_cases h : j < ops.length
      · simp [Array.getD, h]
      · simp [Array.getD, h]
    refine ⟨by simp, fun i o _ hon => (by rw [h0] at hon; cases hon), ⟨ρ0, Env.le_refl _, ?_, fun t => ?_⟩, ?_, rfl⟩
    · have : (effD ops ops.length).filter (onL (Array.replicate ops.toArray.size false)) = [] := by
        rw [List.filter_eq_nil_iff]; intro j _; rw [h0]; simp
      rw [this]
      exact hs.same rfl rfl rfl rfl
    · have : look P g.E Γ ops b τ0 H0 (Array.replicate ops.toArray.size false) t ops.length = tg τ0 t := by
        rw [look_high P g.E Γ ops b τ0 H0 _ t 0 ops.length (by omega) (fun j _ _ _ => h0 j)]
        rfl
      rw [this]
      exact R_tg ht t
    · have := ht.length; simpa using this.symm
  · right
    refine ⟨_, ?_, rfl⟩
    have := List.length_filter_le (fun i => !(onL (Array.replicate ops.toArray.size false) i)) (List.range ops.length)
    simpa using this

def Good (g : G) (ρ0 : Env) (F : Fin) (Q : Exit → Act → World → Prop) : Prop := ∀ e τ H ρ a w, Rel g ρ0 ρ τ H a w → F e τ H → Q (exOf e) a w

/-- Entering a range over a function, and coming back. -/
theorem range_sound {P : Program} {g : G} {q : Fin} {ρ0 ρ : Env} {op : Operand} {ps : Array Tmp} {as b : Code} {τ : List SV} {H : List AB} {a : Act} {w : World} {Q : Exit → Act → World → Prop} (hr : Rel g ρ0 ρ τ H a w)
    (h : rangeP P g.E q op ps as b τ H (unw (sev τ) op)) (hq : ∀ x ρ' H' a' w', Rel g ρ0 ρ' τ H' a' w' → q x τ H' → Q (exOf x) a' w') : (Code.rangeFunc op ps as b).wpIn (FR none) 0 P Q a w := by
  unfold rangeP at h
  split at h
  · rename_i f first cap hfn
    obtain ⟨hn, h⟩ := h
    have hv : R ρ (unw (sev τ) op) (a.eval op) := needs_spec rfl hn op (by simp) (R_sev hr.tm op)
    rw [hfn] at hv
    simp only [R] at hv
    obtain ⟨v1, v2, hv, r1, r2⟩ := hv
    refine wpIn_rangeFunc fun fid _ => ?_
    let r : Loop := { state := .ready, pending := none, fn := fid, tmps := a.tmps, params := ps, assign := as, body := b, defers := w.heap.size }
    let w1 := w.alloc (.deferred (some []))
    let w2 := w1.alloc (.loop r)
    have hs1 := hr.sat.grow (.deferred (some []))
    have hd1 : w1.heap[w.heap.size]? = some (.deferred (some [])) := World.alloc_heap_new w _
    have hsz1 : w1.heap.size = w.heap.size + 1 := by simp [w1]
    have hρn : ρ H.length = none := hr.sat.out _ (Nat.le_refl _)
    let ρ1 := ρ.ext H.length (w1.heap.size, (0, 0))
    have hle1 : Env.le ρ ρ1 := Env.le_ext hρn
    have hat : ρ1 H.length = some (w1.heap.size, (0, 0)) := by simp [ρ1, Env.ext]
    let r0 : Loop := ⟨.ready, none, fid, #[], ps, as, b, w.heap.size⟩
    have hs2 : Sat g ρ1 (H ++ [.lrec w1.heap.size τ r0]) w2 :=
      hs1.1.new (c := (0, 0)) (.loop r) hρn (.inl ⟨rfl, rfl⟩) ⟨_, a.tmps, hat, World.alloc_heap_new w1 _, RL.mono hle1 _ _ hr.tm⟩
    have hd2 : Spare g ρ1 (H ++ [.lrec w1.heap.size τ r0]) w2 w.heap.size ∧ w2.heap[w.heap.size]? = some (.deferred (some [])) := by
      refine ⟨⟨hs1.2.size, by simp [w2, w1]; omega, ?_, hs1.2.ro⟩, by rw [show w2.heap[w.heap.size]? = w1.heap[w.heap.size]? from RowKit.Below.heap_alloc w1 _ _ (by omega)]; exact hd1⟩
      intro i ab b' c hi hlv hri
      rcases List.get_cases_push hi with ⟨rfl, rfl⟩ | ⟨hi', hj⟩
      · rw [hat] at hri; cases hri; omega
      · have : ρ1 i = ρ i := by simp [ρ1, Env.ext, Nat.ne_of_lt hi']
        rw [this] at hri
        exact hs1.2.free i ab b' c hj hlv hri
    have hm2 : Marks g ρ1 (H ++ [.lrec w1.heap.size τ r0]) w2 a.defers := by
      refine hr.marks.map fun d hdm hd => ?_
      have hlt := hd.lt
      refine ⟨⟨hd.size, by simp [w2, w1]; omega, ?_, hd.ro⟩, ?_⟩
      · intro i ab b' c hi hlv hri
        rcases List.get_cases_push hi with ⟨rfl, rfl⟩ | ⟨hi', hj⟩
        · rw [hat] at hri; cases hri; omega
        · have : ρ1 i = ρ i := by simp [ρ1, Env.ext, Nat.ne_of_lt hi']
          rw [this] at hri
          exact hd.free i ab b' c hj hlv hri
      · rw [show w2.heap[d]? = w1.heap[d]? from RowKit.Below.heap_alloc w1 _ _ (by omega)]
        exact RowKit.Below.heap_alloc w _ _ hlt
    obtain ⟨v, H2, τ2, r2', hok, hg2, hst, hj⟩ := h w1.heap.size w.heap.size fid r0 rfl
    obtain ⟨⟨fn, b1, b2, b3⟩, hlen, hcall⟩ := hok
    let yv : Value := .func (.yield w1.heap.size) #[] #[]
    have hargs : RL ρ1 (first ++ [.fn (.yield w1.heap.size) [] []] ++ cap) (v1.toList ++ [yv] ++ v2.toList) :=
      RL.append (RL.append (RL.mono hle1 _ _ r1) (by simp only [RL, R]; exact ⟨⟨#[], #[], rfl, trivial, trivial⟩, trivial⟩)) (RL.mono hle1 _ _ r2)
    have hc := hcall (G.of g.E ρ1 (H ++ [.lrec w1.heap.size τ r0]) w2) ρ1 w2 _ rfl hs2.self hargs
    have eargs : (v1.toList ++ [yv] ++ v2.toList).toArray = v1 ++ #[yv] ++ v2 := by apply Array.ext'; simp
    rw [eargs] at hc
    refine ⟨w1.heap.size, [{ target := .collected w.heap.size, args := #[] }], w2, { target := .fn (.func f) v2, args := v1 ++ #[yv] }, w2, f, v1 ++ #[yv] ++ v2, w2, ?_, ?_, fun _ _ => trivial, ?_, fun e => by simp [FR, Fence.wide] at e, ?_⟩
    · have := run_enterLoop_outer (P := P) (w := w) fid a.tmps ps as b
      rw [hsz1]
      exact this
    · simp only [resolve, hv, Deferred.ofValue]
      simp [yv, Act.eval]
    · show (callFunc f _).run P w2 = _
      unfold callFunc
      simp only [Sem.run_bind, run_program, Result.andThen_ok, b1, b2, b3, Bool.false_eq_true, if_false, Sem.run_pure]
    · refine callsIn_FR.2 (hc.mono ?_)
      rintro e w3 ⟨ρ', x, rfl, k1, k2, k3⟩
      have hs3 := hs2.comp k2
      obtain ⟨hd3, hd3'⟩ := hd2.1.comp k2
      have hm3 : Marks g ρ' H2 w3 a.defers := hm2.map fun d _ hd => hd.comp k2
      have hlt2 : H.length < H2.length := by simp at hlen; omega
      have hg2' : H2[H.length]? = some (.lrec w1.heap.size τ2 r2') := by
        rw [hget_eq, List.getElem?_eq_getElem hlt2] at hg2
        rw [List.getElem?_eq_getElem hlt2]
        simpa using hg2
      obtain ⟨c2, t2, q1, q2, q3⟩ := hs3.blk _ _ hg2'
      have hend := run_endLoop (P := P) q2 hst
      have hsl : g.w0.heap.size ≤ w1.heap.size := by have := hr.sat.size; omega
      obtain ⟨hs4, hspl⟩ := hs3.drop hg2' rfl q1 hsl
      let w4 := w3.putObj w1.heap.size (.loop { ({ r2' with tmps := t2 } : Loop) with state := .exhausted })
      have hput : ∀ k, k ≠ w1.heap.size → w4.heap[k]? = w3.heap[k]? := fun k hk => World.putObj_heap_other hk
      have hs5 : Sat g ρ' (H2.set H.length .dead) w4 := hs4.touch hspl rfl rfl rfl (by simp [w4]) hput
      have hdd : ∀ {d : Nat}, Spare g ρ' H2 w3 d → d ≠ w1.heap.size → Spare g ρ' (H2.set H.length .dead) w4 d ∧ w4.heap[d]? = w3.heap[d]? := by
        intro d hd hne
        refine ⟨⟨hd.size, by simp [w4]; exact hd.lt, ?_, hd.ro⟩, hput d hne⟩
        intro i ab b' c hi hlv hri
        by_cases e : i = H.length
        · subst e
          rw [List.getElem?_set] at hi
          simp at hi
          rw [← hi.2] at hlv
          cases hlv
        · rw [List.getElem?_set_ne (Ne.symm e)] at hi
          exact hd.free i ab b' c hi hlv hri
      have hne : ∀ {d : Nat}, Spare g ρ' H2 w3 d → d ≠ w1.heap.size := fun hd e => hd.free _ _ _ _ hg2' rfl q1 e.symm
      have hrel : Rel g ρ0 ρ' τ (H2.set H.length .dead) { a with defers := { target := .collected w.heap.size, args := #[] } :: a.defers } w4 := by
        refine ⟨hs5, RL.mono (Env.le_trans hle1 k1) _ _ hr.tm, ⟨⟨_, rfl, (hdd hd3 (hne hd3)).1, ?_, ?_⟩, hm3.map fun d hdm hd => hdd hd (hne hd)⟩, Env.le_trans hr.le (Env.le_trans hle1 k1)⟩
        · rw [(hdd hd3 (hne hd3)).2, hd3']; exact hd2.2
        · intro d' hm' e
          have := (hr.marks.spare hm').lt
          omega
      refine ⟨_, w4, hend, ?_⟩
      rw [hset_eq] at hj
      show (match r2'.pending with | none => _ | some c => _)
      cases hp : r2'.pending with
      | none => rw [hp] at hj; exact hq .normal ρ' _ _ _ hrel hj
      | some c =>
        rw [hp] at hj
        cases c with
        | ret => exact wpIn_ret (hq .ret ρ' _ _ _ hrel hj)
        | exit id => exact wpIn_exit (hq (.exit id) ρ' _ _ _ hrel hj)
        | _ => exact hj.elim
  · exact h.elim

theorem eng_sound {P : Program} {g : G} {Γ : Con} {pl : Nat → Plan} {N : Nat} {ρ0 : Env} {rd : Option Nat} {rf : Bool} (hrf : rf = true → rd = none) (hm : P.follows .mixedOrders = true) (hΓ : Con.Sound P g.E Γ) (hN : ∀ i, N ≤ i → ρ0 i = none) :
    ∀ (n : Nat) (F : Fin) (Q : Exit → Act → World → Prop), Good g ρ0 F Q → ∀ (τ : List SV) (H : List AB) (ρ : Env) (a : Act) (w : World), Rel g ρ0 ρ τ H a w →
      (∀ c k, plansOk pl rf c = true → kOk rf pl k = true → eng P g.E Γ pl N n F (.run c k) τ H → c.wpIn (FR rd) 0 P (QK P rd Q k) a w) ∧
      (∀ e k, kOk rf pl k = true → eng P g.E Γ pl N n F (.pop e k) τ H → QK P rd Q k (exOf e) a w)
  | 0, F, Q, _, τ, H, ρ, a, w, _ => ⟨fun c k _ _ h => h.elim, fun e k _ h => h.elim⟩
  | n + 1, F, Q, hF, τ, H, ρ, a, w, hr => by
    have ih := eng_sound (pl := pl) (rd := rd) hrf hm hΓ hN n
    constructor
    · intro c k hc hk h
      cases c with
      | skip => exact wpIn_skip ((ih F Q hF τ H ρ a w hr).2 .normal k hk h)
      | seq x y =>
        simp only [plansOk, Bool.and_eq_true] at hc
        exact wpIn_seq ((ih F Q hF τ H ρ a w hr).1 x (.seq y :: k) hc.1 (by simp only [kOk, Bool.and_eq_true]; exact ⟨hc.2, hk⟩) h)
      | block id c => exact wpIn_block ((ih F Q hF τ H ρ a w hr).1 c (.blk id :: k) hc hk h)
      | exit id => exact wpIn_exit ((ih F Q hF τ H ρ a w hr).2 (.exit id) k hk h)
      | ret => exact wpIn_ret (QK_ret (hF .ret τ H ρ a w hr h) k)
      | cond c x y =>
        simp only [plansOk, Bool.and_eq_true] at hc
        obtain ⟨h1, h2⟩ := h
        have hv := needs_spec rfl h1 c (by simp) (R_sev hr.tm c)
        unfold selC at h2
        split at h2
        · rename_i b e
          rw [e] at hv
          simp only [R] at hv
          refine wpIn_cond hv ?_
          cases b with
          | true => exact (ih F Q hF _ _ ρ a w hr).1 x k hc.1 hk h2
          | false => exact (ih F Q hF _ _ ρ a w hr).1 y k hc.2 hk h2
        · exact h2.elim
      | region id ops d =>
        obtain ⟨ops⟩ := ops
        simp only [plansOk, Bool.and_eq_true] at hc
        let Q' : Exit → Act → World → Prop := fun e a w => e = .normal ∧ QK P rd Q k .normal a w
        have hQ' : ¬ LetsOut Q' := by rintro ⟨a, w, h, _⟩; cases h
        have up : ∀ {c : Code}, c.wpIn (FR rd) 0 P Q' a w → c.wpIn (FR rd) 0 P (QK P rd Q k) a w := fun hc => wpIn_mono hc (fun e a w ⟨he, hq⟩ => he ▸ hq)
        cases d with
        | false =>
          have h' : regC (eng P g.E Γ pl N n F (.pop .normal k)) (litSt P g.E Γ (pl id) ops τ H) := h
          refine up (wpIn_region_lit ?_)
          unfold litSt at h'
          split at h'
          · generalize hst : srunA P g.E Γ ops ops True τ H = st at h'
            obtain ⟨p, τ', H'⟩ := st
            obtain ⟨h1, h2⟩ := h'
            refine list_in hQ' _ _ _ hc.1 (srunA_sound (g := G.of g.E ρ H w) hΓ ops True ρ τ H a w hr.sat.self hr.tm (by show (srunA P g.E Γ ops ops True τ H).pre; rw [hst]; exact h1) (fun ρ' a' w' k1 k2 k3 k4 => ?_))
            change Sat _ ρ' (srunA P g.E Γ ops ops True τ H).hp w' at k2
            change RL ρ' (srunA P g.E Γ ops ops True τ H).tm _ at k3
            rw [hst] at k2 k3
            exact ⟨rfl, (ih F Q hF τ' H' ρ' a' w' (hr.step k1 k2 k3 k4)).2 .normal k hk h2⟩
          · generalize hst : srunY P g.E Γ ops ops True τ H = st at h'
            obtain ⟨p, τ', H'⟩ := st
            obtain ⟨h1, h2⟩ := h'
            refine srunY_sound (g := G.of g.E ρ H w) hΓ hQ' ops True ρ τ H a w hc.1 hr.sat.self hr.tm (by show (srunY P g.E Γ ops ops True τ H).pre; rw [hst]; exact h1) (fun ρ' a' w' k1 k2 k3 k4 => ?_)
            change Sat _ ρ' (srunY P g.E Γ ops ops True τ H).hp w' at k2
            change RL ρ' (srunY P g.E Γ ops ops True τ H).tm _ at k3
            rw [hst] at k2 k3
            exact ⟨rfl, (ih F Q hF τ' H' ρ' a' w' (hr.step k1 k2 k3 k4)).2 .normal k hk h2⟩
        | true =>
          simp only [Bool.and_eq_true, beq_iff_eq] at hc
          have h' : regC (eng P g.E Γ pl N n F (.pop .normal k)) (drawSt P g.E Γ (pl id) ops τ H) := h
          obtain ⟨h1, h2⟩ := h'
          exact up (drawn_soundIn (g := G.of g.E ρ H w) hm hc.1 hc.2.1 hc.2.2 hΓ hQ' (holes_sat hr.sat.self ops) hr.tm h1.1 h1.2 (fun ρ' a' w' k1 k2 k3 k4 =>
            ⟨rfl, (ih F Q hF _ _ ρ' a' w' (hr.step k1 k2 k3 k4)).2 .normal k hk h2⟩))
      | loop c =>
        obtain ⟨α, T, Hp, I, m, s0, i0, ⟨o, nw⟩, hb⟩ := h
        obtain ⟨ρs, hrs⟩ := hr.narrowO hN nw
        refine wpIn_loop_ex (fun s a w => I s ∧ ∃ ρ, Rel g ρ0 ρ (T s) (Hp s) a w) m (fun s a w ⟨hI, ρ', hr'⟩ => ?_) (s0 := s0) ⟨i0, ρs, hrs⟩
        refine (ih (fun x t h => (x = .normal → ∃ o s', I s' ∧ m s' < m s ∧ NwO N o (T s') (Hp s') t h) ∧ (x ≠ .normal → popF (eng P g.E Γ pl N n F) k x t h)) _ ?_ (T s) (Hp s) ρ' a w hr').1 c [] hc rfl
          (hb s hI _ (fun o s' t h i1 i2 i3 => ⟨fun _ => ⟨o, s', i1, i2, i3⟩, fun e => absurd rfl e⟩) (fun x t h hx hq => ⟨fun e => absurd e hx, fun _ => hq⟩))
        intro e t h ρ1 a1 w1 hr1 hf
        cases e with
        | normal =>
          obtain ⟨o, s', i1, i2, i3⟩ := hf.1 rfl
          exact ⟨s', ⟨i1, hr1.narrowO hN i3⟩, i2⟩
        | exit id => exact (ih F Q hF t h ρ1 a1 w1 hr1).2 (.exit id) k hk (hf.2 (by simp))
        | ret => exact (ih F Q hF t h ρ1 a1 w1 hr1).2 .ret k hk (hf.2 (by simp))
      | rangeFunc f ps as b =>
        have e := hrf hc
        subst e
        exact range_sound hr h (fun x ρ' H' a' w' hr' hq => (ih F Q hF τ H' ρ' a' w' hr').2 x k hk hq)
      | scope c => exact h.elim
      | label l => exact h.elim
      | goto l => exact h.elim
      | refuse s => exact h.elim
    · intro e k hk h
      cases e with
      | ret => exact QK_ret (hF .ret τ H ρ a w hr h) k
      | normal =>
        cases k with
        | nil => exact hF .normal τ H ρ a w hr h
        | cons x k =>
          cases x with
          | seq c =>
            simp only [kOk, Bool.and_eq_true] at hk
            exact (ih F Q hF τ H ρ a w hr).1 c k hk.1 hk.2 h
          | blk id => exact (ih F Q hF τ H ρ a w hr).2 .normal k hk h
      | exit j =>
        cases k with
        | nil => exact hF (.exit j) τ H ρ a w hr h
        | cons x k =>
          cases x with
          | seq c =>
            simp only [kOk, Bool.and_eq_true] at hk
            exact (ih F Q hF τ H ρ a w hr).2 (.exit j) k hk.2 h
          | blk id =>
            have h' : exitC (eng P g.E Γ pl N n F (.pop .normal k)) (eng P g.E Γ pl N n F (.pop (.exit j) k)) (j == id) τ H := h
            simp only [QK, exOf, Exit.inBlock]
            by_cases q : j = id
            · rw [if_pos q]
              have : (j == id) = true := by simpa using q
              rw [this] at h'
              exact (ih F Q hF τ H ρ a w hr).2 .normal k hk h'
            · rw [if_neg q]
              have : (j == id) = false := by simpa using q
              rw [this] at h'
              exact (ih F Q hF τ H ρ a w hr).2 (.exit j) k hk h'

/-! ### A function -/
def sRes1 (P : Program) (E : Addr → Option Value) (τ : List SV) (H : List AB) : ResultVar → Res
  | .tmp t => ⟨True, tg τ t, H⟩
  | .cell a t => sLoad P E H t (tg τ a)

def resK (k : Prop × List SV) : Res → Prop × List SV
  | ⟨p, v, _⟩ => (p ∧ k.1, v :: k.2)

def sResults (P : Program) (E : Addr → Option Value) (τ : List SV) (H : List AB) : List ResultVar → Prop × List SV
  | [] => (True, [])
  | r :: l => resK (sResults P E τ H l) (sRes1 P E τ H r)

def retV : List SV → SV
  | [x] => x
  | l => .tup l

def retP (N : Nat) (v : SV) (H' H : List AB) : Prop × List SV → Prop
  | (p, l) => p ∧ vwk v (retV l) ∧ N ≤ H'.length ∧ hwk H'.length H' H ∧ sc H'.length v = true

def resF (ts : Array Value) : ResultVar → Sem Value
  | .tmp t => pure (ts.getD t undef)
  | .cell a t => do loadVar t (← asAddr (ts.getD a undef))

theorem results_eq (fn : Func) (ts : Array Value) : results fn ts = (do let vs ← fn.results.mapM (resF ts); pure (if h : vs.size = 1 then vs[0] else .tuple vs)) := by
  have e : (fun r => match r with
    | .tmp t => pure (ts.getD t undef)
    | .cell a t => do loadVar t (← asAddr (ts.getD a undef)) : ResultVar → Sem Value) = resF ts := by
    funext r; cases r <;> rfl
  rw [← e]
  rfl

theorem sResults_sound {P : Program} {g : G} {ρ : Env} {H : List AB} {w : World} (hs : Sat g ρ H w) {τ : List SV} {ts : Array Value} (ht : RL ρ τ ts.toList) : ∀ (rs : List ResultVar), (sResults P g.E τ H rs).1 →
    ∃ vs : List Value, RL ρ (sResults P g.E τ H rs).2 vs ∧ (rs.mapM (resF ts)).run P w = .ok vs w
  | [], _ => ⟨[], by simp [sResults, RL], by simp⟩
  | r :: rs, h => by
    simp only [sResults] at h ⊢
    have h0 : (sRes1 P g.E τ H r).pre ∧ (sResults P g.E τ H rs).1 := by
      generalize sRes1 P g.E τ H r = x at h
      obtain ⟨p, v, _⟩ := x
      exact h
    obtain ⟨vs, h1, h2⟩ := sResults_sound hs ht rs h0.2
    cases r with
    | tmp t =>
      refine ⟨ts.getD t undef :: vs, ?_, ?_⟩
      · simp only [sRes1, resK, RL]; exact ⟨R_tg ht t, h1⟩
      · simp only [List.mapM_cons, resF, Sem.run_bind, Sem.run_pure, Result.andThen_ok, h2]
    | cell a t =>
      simp only [sRes1] at h0 ⊢
      obtain ⟨_, x, h3, h4⟩ := sLoad_sound hs (R_tg ht a) h0.1
      refine ⟨x :: vs, ?_, ?_⟩
      · generalize sLoad P g.E H t (tg τ a) = r at h4 ⊢
        obtain ⟨p, v, _⟩ := r
        simp only [resK, RL]; exact ⟨h4, h1⟩
      · have h5 := h3 w rfl
        have hv : ∃ b o : Nat, ts.getD a undef = .pointer (some ⟨b, o, none⟩) := by
          have h7 := h0.1
          unfold sLoad at h7
          split at h7
          · obtain ⟨b, o, _, hv, _⟩ := cellsAt_spec hs (R_tg ht a) _ h7.2; exact ⟨b, o, hv⟩
          · obtain ⟨b, o, _, hv, _⟩ := cellsAt_spec hs (R_tg ht a) _ h7.2; exact ⟨b, o, hv⟩
        obtain ⟨b, o, hv⟩ := hv
        rw [hv] at h5
        have h6 : (loadVar t ⟨b, o, none⟩).run P w = .ok x w := by
          simpa [Instr.loadAt, Instr.sureAddr] using h5
        simp only [List.mapM_cons, resF, Sem.run_bind, hv, asAddr, Sem.run_pure, Result.andThen_ok, h6, h2]

def undefs : Nat → List SV
  | 0 => []
  | n + 1 => .raw undef :: undefs n

theorem RL_undefs (ρ : Env) : ∀ n, RL ρ (undefs n) (List.replicate n undef)
  | 0 => by simp [undefs, RL]
  | n + 1 => by simp only [undefs, List.replicate_succ, RL, R]; exact ⟨trivial, RL_undefs ρ n⟩

def NotExit : Ex → Prop
  | .exit _ => False
  | _ => True

/-- What must hold where a function ends. -/
def FinP (P : Program) (E : Addr → Option Value) (N : Nat) (rs : List ResultVar) (v : SV) (H' : List AB) (e : Ex) (τ : List SV) (H : List AB) : Prop :=
  NotExit e ∧ retP N v H' H (sResults P E τ H rs)

def renR (σ : List Nat) : Prop × List SV → Prop × List SV
  | (p, l) => (p, renJs σ l)

/-- The same, with the blocks at new places. -/
def FinR (P : Program) (E : Addr → Option Value) (N : Nat) (rs : List ResultVar) (v : SV) (H' : List AB) (σ : List Nat) (e : Ex) (τ : List SV) (H : List AB) : Prop :=
  NotExit e ∧ σ.take N = List.range N ∧ retP N v H' (mvH H σ σ) (renR σ (sResults P E τ H rs))

theorem leaves_marks {P : Program} {g : G} {ρ : Env} {H : List AB} {fn : Func} {ts : Array Value} {R0 : Ending → World → Prop} : ∀ {ds : List Deferred} {w : World}, Sat g ρ H w → Marks g ρ H w ds →
    (∀ w', Sat g ρ H w' → ∃ v, (results fn ts).run P w' = .ok v w' ∧ R0 (.returned v) w') → LeavesInM (FR none) 0 P fn ts R0 ds .returning w
  | [], w, hs, _, h => h w hs
  | x :: l, w, hs, hm, h => by
    obtain ⟨⟨d, rfl, h1, h2, h3⟩, h4⟩ := hm
    refine ⟨by simp, .inl ⟨d, w.putObj d (.deferred none), rfl, run_takeDeferred h2, ?_⟩⟩
    have hput : ∀ k, k ≠ d → (w.putObj d (.deferred none)).heap[k]? = w.heap[k]? := fun k hk => World.putObj_heap_other hk
    have hs' := hs.touch h1 (w' := w.putObj d (.deferred none)) rfl rfl rfl (by simp) hput
    refine leaves_marks hs' (h4.map fun d' hd' hsp => ⟨⟨hsp.size, by simp; exact hsp.lt, hsp.free, hsp.ro⟩, hput d' (h3 d' hd')⟩) h

/-- **A function's contract, out of the engine's run of its body.** -/
theorem ok_of_engR {P : Program} {E : Addr → Option Value} {Γ : Con} {pl : Nat → Plan} {f : FuncId} {fn : Func} {c : Code} {args : List SV} {H : List AB} {v : SV} {H' : List AB} (hm : P.follows .mixedOrders = true) (hΓ : Con.Sound P E Γ)
    (hf : P.funcs[f]? = some fn) (hname : (fn.name == "runtime.NumGoroutine") = false) (hb : fn.body = some c) (hpl : plansOk pl true c = true) (hlen : H.length ≤ H'.length) (n : Nat)
    (h : ∀ F : Fin, (∀ e τ h, FinP P E H.length fn.results.toList v H' e τ h → F e τ h) → (∀ σ e τ h, FinR P E H.length fn.results.toList v H' σ e τ h → F e τ h) →
      eng P E Γ pl H.length n F (.run c []) (args ++ undefs (fn.ntmps - args.length)) H) :
    Ok P E f args H v H' := by
  refine ⟨⟨fn, hf, hname, by simp [hb]⟩, hlen, ?_⟩
  intro g ρ w vargs hE hs hr
  subst hE
  refine (callsIn_FR (r := none) (n := 0)).1 (callsIn_of_wp_marks hf hb trivial ?_)
  have hl := hr.length
  have hN : ∀ i, H.length ≤ i → ρ i = none := hs.out
  refine (eng_sound (rd := none) (rf := true) (fun _ => rfl) (N := H.length) (ρ0 := ρ) hm hΓ hN n (fun e τ h => FinP P g.E H.length fn.results.toList v H' e τ h ∨ ∃ σ, FinR P g.E H.length fn.results.toList v H' σ e τ h) _ ?_ _ H ρ { tmps := vargs.toArray ++ Array.replicate (fn.ntmps - vargs.toArray.size) undef, defers := [] } w ⟨hs, ?_, trivial, Env.le_refl _⟩).1 c [] hpl rfl
    (h _ (fun _ _ _ hh => .inl hh) (fun σ _ _ _ hh => .inr ⟨σ, hh⟩))
  · intro e τ H1 ρ1 a w1 hrel hfin
    have hexit : NotExit e := by
      rcases hfin with hfin | ⟨σ, hfin⟩
      · exact hfin.1
      · exact hfin.1
    have hres : LeavesInM (FR none) 0 P fn a.tmps (fun e w' => ∃ ρ' x, e = .returned x ∧ Env.le ρ ρ' ∧ Sat g ρ' H' w' ∧ R ρ' v x) a.defers .returning w1 := by
      refine leaves_marks hrel.sat hrel.marks fun w2 hs2 => ?_
      -- what is left once the marks are dealt with
      have key : ∀ (ρ2 : Env) (h2 : List AB) (l : List SV) (vs : List Value), Sat g ρ2 h2 w2 → Env.le ρ ρ2 → RL ρ2 l vs → vwk v (retV l) → H.length ≤ H'.length → hwk H'.length H' h2 → sc H'.length v = true →
          (fn.results.toList.mapM (resF a.tmps)).run P w2 = .ok vs w2 → ∃ v_1, (results fn a.tmps).run P w2 = .ok v_1 w2 ∧ ∃ ρ' x, Ending.returned v_1 = .returned x ∧ Env.le ρ ρ' ∧ Sat g ρ' H' w2 ∧ R ρ' v x := by
        intro ρ2 h2 l vs ks kle k1 f2 f3 f4 f5 k2
        have hnar : Rel g ρ (ρ2.cut H'.length) [] H' { tmps := #[], defers := [] } w2 := by
          have : Rel g ρ ρ2 [] h2 { tmps := #[], defers := [] } w2 := ⟨ks, by simp [RL], trivial, kle⟩
          exact this.narrow hN ⟨f3, f4, by simp [wk], by simp [scs]⟩
        have hval : R ρ2 (retV l) (if h : vs.toArray.size = 1 then vs.toArray[0] else .tuple vs.toArray) := by
          match l, vs, k1 with
          | [], [], _ => simp [retV, R, RL]
          | [x], [y], k1 => simp only [RL] at k1; simpa [retV] using k1.1
          | x :: x' :: l, y :: y' :: vs, k1 =>
            simp only [retV, R]
            exact ⟨_, by simp, k1⟩
          | [], _ :: _, k1 => simp only [RL] at k1
          | _ :: _, [], k1 => simp only [RL] at k1
          | [_], _ :: _ :: _, k1 => simp only [RL] at k1; exact k1.2.elim
          | _ :: _ :: _, [_], k1 => simp only [RL] at k1; exact k1.2.elim
        refine ⟨_, ?_, ρ2.cut H'.length, _, rfl, hnar.le, hnar.sat, R.cut _ _ f5 (R.vwk f2 hval)⟩
        rw [results_eq, ← Array.toArray_toList (xs := fn.results), List.mapM_toArray]
        simp only [Sem.run_bind, Sem.run_map, k2, Result.andThen_ok, Sem.run_pure]
      rcases hfin with hfin | ⟨σ, hfin⟩
      · unfold FinP at hfin
        obtain ⟨_, hfin⟩ := hfin
        generalize hsr : sResults P g.E τ H1 fn.results.toList = sr at hfin
        obtain ⟨p, l⟩ := sr
        obtain ⟨f1, f2, f3, f4, f5⟩ := hfin
        obtain ⟨vs, k1, k2⟩ := sResults_sound hs2 hrel.tm fn.results.toList (by rw [hsr]; exact f1)
        rw [hsr] at k1
        exact key ρ1 H1 l vs hs2 hrel.le k1 f2 f3 f4 f5 k2
      · unfold FinR at hfin
        obtain ⟨_, hσ, hfin⟩ := hfin
        generalize hsr : sResults P g.E τ H1 fn.results.toList = sr at hfin
        obtain ⟨p, l⟩ := sr
        obtain ⟨f1, f2, f3, f4, f5⟩ := hfin
        obtain ⟨vs, k1, k2⟩ := sResults_sound hs2 hrel.tm fn.results.toList (by rw [hsr]; exact f1)
        rw [hsr] at k1
        exact key (ρ1.mv σ) (mvH H1 σ σ) (renJs σ l) vs (hs2.mv σ) (mv_le hN hrel.le hσ) (RL_renJ ρ1 σ _ _ k1) f2 f3 f4 f5 k2
    cases e with
    | normal => exact hres
    | ret => exact hres
    | exit id => exact hexit.elim
  · simp only [Array.toList_append, List.size_toArray]
    rw [hl]
    refine RL.append hr ?_
    simpa using RL_undefs ρ (fn.ntmps - vargs.length)

theorem ok_of_eng {P : Program} {E : Addr → Option Value} {Γ : Con} {pl : Nat → Plan} {f : FuncId} {fn : Func} {c : Code} {args : List SV} {H : List AB} {v : SV} {H' : List AB} (hm : P.follows .mixedOrders = true) (hΓ : Con.Sound P E Γ)
    (hf : P.funcs[f]? = some fn) (hname : (fn.name == "runtime.NumGoroutine") = false) (hb : fn.body = some c) (hpl : plansOk pl true c = true) (hlen : H.length ≤ H'.length) (n : Nat)
    (h : ∀ F : Fin, (∀ e τ h, FinP P E H.length fn.results.toList v H' e τ h → F e τ h) → eng P E Γ pl H.length n F (.run c []) (args ++ undefs (fn.ntmps - args.length)) H) :
    Ok P E f args H v H' := ok_of_engR hm hΓ hf hname hb hpl hlen n (fun F h1 _ => h F h1)

end Go.Proofs.Ytmnpnnegnlhemaa.Eng
namespace Go.Proofs.Ytmnpnnegnlhemaa.Eng
open Go

mutual
def ren (σ : Nat → Nat) : SV → SV
  | .junk => .junk
  | .raw v => .raw v
  | .opt g v => .opt g (ren σ v)
  | .ptr i o => .ptr (σ i) o
  | .pel i sz k j => .pel (σ i) sz k j
  | .lst i sz off len => .lst (σ i) sz off len
  | .mapv i => .mapv (σ i)
  | .fn f a b => .fn f (rens σ a) (rens σ b)
  | .agg l => .agg (rens σ l)
  | .tup l => .tup (rens σ l)
def rens (σ : Nat → Nat) : List SV → List SV
  | [] => []
  | s :: l => ren σ s :: rens σ l
end

def Env.via (ρ : Env) (σ : Nat → Nat) : Env := fun i => ρ (σ i)

mutual
theorem R_ren (ρ : Env) (σ : Nat → Nat) : ∀ (s : SV) (x : Value), R ρ (ren σ s) x ↔ R (ρ.via σ) s x
  | .junk, _ => by simp only [ren, R]
  | .raw v, _ => by simp only [ren, R]
  | .opt g v, x => by simp only [ren, R, R_ren ρ σ v x]
  | .ptr i o, _ => by simp only [ren, R, Env.via]
  | .pel i sz k j, _ => by simp only [ren, R, Env.via]
  | .lst i sz off len, _ => by simp only [ren, R, Env.via]
  | .mapv i, _ => by simp only [ren, R, Env.via]
  | .fn f a b, _ => by simp only [ren, R, RL_ren ρ σ a, RL_ren ρ σ b]
  | .agg l, _ => by simp only [ren, R, RL_ren ρ σ l]
  | .tup l, _ => by simp only [ren, R, RL_ren ρ σ l]
theorem RL_ren (ρ : Env) (σ : Nat → Nat) : ∀ (l : List SV) (r : List Value), RL ρ (rens σ l) r ↔ RL (ρ.via σ) l r
  | [], [] => by simp only [rens, RL]
  | s :: l, v :: r => by simp only [rens, RL, R_ren ρ σ s v, RL_ren ρ σ l r]
  | [], _ :: _ => by simp only [rens, RL]
  | _ :: _, [] => by simp only [rens, RL]
end

def renEnts (σ : Nat → Nat) : List (Value × SV) → List (Value × SV)
  | [] => []
  | (k, s) :: l => (k, ren σ s) :: renEnts σ l

theorem renEnts_length (σ : Nat → Nat) : ∀ l, (renEnts σ l).length = l.length
  | [] => rfl
  | (_, _) :: l => by simp [renEnts, renEnts_length σ l]

theorem REnts_ren (ρ : Env) (σ : Nat → Nat) : ∀ (q : Nat) (l : List (Value × SV)) (r : List MapEntry), REnts ρ q (renEnts σ l) r ↔ REnts (ρ.via σ) q l r
  | _, [], [] => by simp only [renEnts, REnts]
  | q, (k, s) :: l, e :: r => by simp only [renEnts, REnts, R_ren ρ σ s, REnts_ren ρ σ (q + 1) l r]
  | _, [], _ :: _ => by simp only [renEnts, REnts]
  | _, (_, _) :: _, [] => by simp only [renEnts, REnts]

theorem rens_get (σ : Nat → Nat) : ∀ (l : List SV) (j : Nat), (rens σ l)[j]? = (l[j]?).map (ren σ)
  | [], _ => by simp [rens]
  | s :: l, 0 => by simp [rens]
  | s :: l, j + 1 => by simp [rens, rens_get σ l j]

def renB (σ : Nat → Nat) : AB → AB
  | .dead => .dead
  | .hole => .hole
  | .cells cs t => .cells (rens σ cs) t
  | .lst n sz f t => .lst n sz (fun k => rens σ (f k)) t
  | .map es => .map (renEnts σ es)
  | .lrec b τ l => .lrec b (rens σ τ) l

theorem renB_live (σ : Nat → Nat) (a : AB) : (renB σ a).live = a.live := by cases a <;> rfl

theorem BSat_ren (ρ : Env) (σ : Nat → Nat) (i : Nat) (w : World) (a : AB) : BSat ρ (σ i) w (renB σ a) ↔ BSat (ρ.via σ) i w a := by
  cases a with
  | dead => exact Iff.rfl
  | hole => exact Iff.rfl
  | cells cs t => simp only [renB, BSat, Env.via, RL_ren]
  | lst n sz f t =>
    simp only [renB, BSat, Env.via]
    refine or_congr Iff.rfl ?_
    refine exists_congr fun b => exists_congr fun c => exists_congr fun ar => and_congr Iff.rfl (and_congr Iff.rfl (and_congr Iff.rfl (and_congr Iff.rfl ?_)))
    constructor
    · intro h k j s hk hj hf
      obtain ⟨x, hx, hr⟩ := h k j (ren σ s) hk hj (by rw [rens_get, hf]; rfl)
      exact ⟨x, hx, (R_ren ρ σ s x).1 hr⟩
    · intro h k j s hk hj hf
      rw [rens_get] at hf
      cases hq : (f k)[j]? with
      | none => rw [hq] at hf; cases hf
      | some s' =>
        rw [hq] at hf
        cases hf
        obtain ⟨x, hx, hr⟩ := h k j s' hk hj hq
        exact ⟨x, hx, (R_ren ρ σ s' x).2 hr⟩
  | map es => simp only [renB, BSat, Env.via, REnts_ren, renEnts_length]
  | lrec b τ l => simp only [renB, BSat, Env.via, RL_ren]

/-- Where the blocks of a small heap lie in a great one; what is new goes behind all. -/
def sig (σ : List Nat) (n : Nat) (j : Nat) : Nat := (σ[j]?).getD (n + (j - σ.length))

theorem sig_lt {σ : List Nat} {n j : Nat} (h : j < σ.length) : sig σ n j = σ[j] := by simp [sig, h]
theorem sig_ge {σ : List Nat} {n j : Nat} (h : σ.length ≤ j) : sig σ n j = n + (j - σ.length) := by simp [sig, h]

def subH (τ : Nat → Nat) (H : List AB) : List Nat → List AB → Prop
  | [], [] => True
  | i :: σ, a :: l => (i < H.length ∧ hget H i = renB τ a) ∧ subH τ H σ l
  | _, _ => False

def updH (τ : Nat → Nat) : List AB → List Nat → List AB → List AB
  | H, [], l => H ++ l.map (renB τ)
  | H, _ :: _, [] => H
  | H, i :: σ, a :: l => updH τ (hset H i (renB τ a)) σ l

theorem subH_get {τ : Nat → Nat} {H : List AB} : ∀ {σ : List Nat} {l : List AB}, subH τ H σ l → σ.length = l.length ∧ ∀ (j : Nat) (h1 : j < σ.length) (h2 : j < l.length), H[σ[j]]? = some (renB τ l[j])
  | [], [], _ => ⟨rfl, fun j h1 => by simp at h1⟩
  | [], _ :: _, h => by simp [subH] at h
  | _ :: _, [], h => by simp [subH] at h
  | i :: σ, a :: l, h => by
    simp only [subH] at h
    obtain ⟨⟨h1, h2⟩, h3⟩ := h
    obtain ⟨h4, h5⟩ := subH_get h3
    refine ⟨by simp [h4], fun j k1 k2 => ?_⟩
    cases j with
    | zero =>
      simp only [List.getElem_cons_zero]
      rw [hget_eq] at h2
      rw [List.getElem?_eq_getElem h1] at h2 ⊢
      simpa using h2
    | succ j => simpa using h5 j (by simpa using k1) (by simpa using k2)

theorem updH_get {τ : Nat → Nat} : ∀ (σ : List Nat) (H l : List AB), σ.length ≤ l.length → (∀ i ∈ σ, i < H.length) → σ.Nodup →
    (updH τ H σ l).length = H.length + (l.length - σ.length) ∧
    (∀ (j : Nat) (h1 : j < σ.length) (h2 : j < l.length), (updH τ H σ l)[σ[j]]? = some (renB τ l[j])) ∧
    (∀ i, i < H.length → i ∉ σ → (updH τ H σ l)[i]? = H[i]?) ∧
    (∀ j, σ.length ≤ j → (updH τ H σ l)[H.length + (j - σ.length)]? = (l[j]?).map (renB τ))
  | [], H, l, _, _, _ => by
    refine ⟨by simp [updH], fun j h1 => by simp at h1, fun i hi _ => ?_, fun j _ => ?_⟩
    · simp [updH, List.getElem?_append_left hi]
    · simp only [updH, List.length_nil, Nat.sub_zero]
      rw [List.getElem?_append_right (by omega)]
      simp
  | i :: σ, H, [], h, _, _ => by simp at h
  | i :: σ, H, a :: l, h, hlt, hnd => by
    simp only [List.nodup_cons] at hnd
    have hil : i < H.length := hlt i (by simp)
    obtain ⟨g1, g2, g3, g4⟩ := updH_get σ (hset H i (renB τ a)) l (by simpa using h) (fun k hk => by rw [hset_eq]; simpa using hlt k (by simp [hk])) hnd.2
    simp only [hset_eq, List.length_set] at g1 g2 g3 g4
    simp only [updH, hset_eq]
    refine ⟨by rw [g1]; simp, fun j h1 h2 => ?_, fun k hk hm => ?_, fun j hj => ?_⟩
    · cases j with
      | zero =>
        simp only [List.getElem_cons_zero]
        rw [g3 i hil hnd.1]
        simp [hil]
      | succ j => simpa using g2 j (by simpa using h1) (by simpa using h2)
    · simp only [List.mem_cons, not_or] at hm
      rw [g3 k hk hm.2, List.getElem?_set_ne (Ne.symm hm.1)]
    · cases j with
      | zero => simp at hj
      | succ j =>
        have := g4 j (by simpa using hj)
        simpa using this

theorem idxOf_at : ∀ {σ : List Nat} (_ : σ.Nodup) {j : Nat} (hj : j < σ.length), σ.idxOf σ[j] = j
  | [], _, j, hj => by simp at hj
  | a :: σ, hn, 0, _ => by simp
  | a :: σ, hn, j + 1, hj => by
    simp only [List.nodup_cons] at hn
    have hj' : j < σ.length := by simpa using hj
    have hne : a ≠ σ[j] := fun e => hn.1 (e ▸ List.getElem_mem hj')
    simp only [List.getElem_cons_succ, List.idxOf_cons]
    have : (a == σ[j]) = false := by simpa using hne
    simp [this, idxOf_at hn.2 hj']

theorem Env.via_cut_le {ρ ρ' : Env} {σ : Nat → Nat} {n : Nat} (h : ∀ i, i < n → ρ' (σ i) = ρ (σ i)) : (ρ'.via σ).cut n = (ρ.via σ).cut n := by
  funext i
  unfold Env.cut Env.via
  split
  · rename_i hi; exact h i hi
  · rfl

/-- **The frame rule.** -/
theorem Ok.frame {P : Program} {E : Addr → Option Value} {f : FuncId} {args0 : List SV} {H0 : List AB} {v0 : SV} {H1 : List AB} (h : Ok P E f args0 H0 v0 H1) (H : List AB) (σ : List Nat)
    (hsub : subH (sig σ H.length) H σ H0) (hnd : σ.Nodup) (ha : scs H0.length args0 = true) (hb : hwk H0.length H0 H0) :
    Ok P E f (rens (sig σ H.length) args0) H (ren (sig σ H.length) v0) (updH (sig σ H.length) H σ H1) := by
  obtain ⟨hbody, hlen, hok⟩ := h
  obtain ⟨hσl, hget⟩ := subH_get hsub
  have hσlt : ∀ i ∈ σ, i < H.length := by
    intro i hi
    obtain ⟨j, hj, rfl⟩ := List.getElem_of_mem hi
    have := hget j hj (by omega)
    rcases Nat.lt_or_ge σ[j] H.length with q | q
    · exact q
    · rw [List.getElem?_eq_none q] at this; cases this
  obtain ⟨u1, u2, u3, u4⟩ := updH_get (τ := sig σ H.length) σ H H1 (by omega) hσlt hnd
  refine ⟨hbody, by rw [u1]; omega, ?_⟩
  intro g ρ w vargs hE hs hr
  -- the small heap
  have hn0 : σ.length = H0.length := hσl
  have hsigInj : ∀ i j, i < σ.length → j < σ.length → sig σ H.length i = sig σ H.length j → i = j := by
    intro i j hi hj e
    rw [sig_lt hi, sig_lt hj] at e
    exact (List.getElem_inj hnd).1 e
  have hglob : ∀ j ab, H0[j]? = some ab → H[sig σ H.length j]? = some (renB (sig σ H.length) ab) := by
    intro j ab hj
    have hj' : j < H0.length := (List.getElem?_eq_some_iff.1 hj).1
    rw [sig_lt (by omega), hget j (by omega) hj']
    congr 2
    exact (List.getElem?_eq_some_iff.1 hj).2
  have hcut : ∀ j, j < H0.length → ((ρ.via (sig σ H.length)).cut H0.length) j = ρ (sig σ H.length j) := fun j hj => by
    rw [Env.cut_lt hj]; rfl
  have hout0 : ∀ j, H0.length ≤ j → ((ρ.via (sig σ H.length)).cut H0.length) j = none := fun j hj => by simp [Env.cut, Nat.not_lt.2 hj]
  have hlt0 : ∀ j ab, H0[j]? = some ab → j < H0.length := fun j ab hj => (List.getElem?_eq_some_iff.1 hj).1
  have hA0 : ∀ b, (∃ j ab c, H0[j]? = some ab ∧ ab.live = true ∧ ρ (sig σ H.length j) = some (b, c)) → (g.A b ∨ g.w0.heap.size ≤ b) ∧ b < w.heap.size ∧ ∃ i ab c, i ∈ σ ∧ H[i]? = some ab ∧ ab.live = true ∧ ρ i = some (b, c) := by
    rintro b ⟨j, ab, c, h1, h2, h3⟩
    have hl : (renB (sig σ H.length) ab).live = true := by rw [renB_live]; exact h2
    have hj := hlt0 j ab h1
    refine ⟨hs.own _ _ b c (hglob j ab h1) hl h3, hs.lt _ _ b c (hglob j ab h1) hl h3, _, _, c, ?_, hglob j ab h1, hl, h3⟩
    rw [sig_lt (by omega)]; exact List.getElem_mem _
  have hs0 : Sat ⟨w, fun b => ∃ j ab c, H0[j]? = some ab ∧ ab.live = true ∧ ρ (sig σ H.length j) = some (b, c), g.E⟩ ((ρ.via (sig σ H.length)).cut H0.length) H0 w := by
    refine ⟨rfl, rfl, rfl, Nat.le_refl _, fun _ _ _ => rfl, ?_, ?_, ?_, ?_, hout0, ?_⟩
    · intro j ab hj
      have hj' := hlt0 j ab hj
      have h1 := (BSat_ren ρ (sig σ H.length) j w ab).1 (hs.blk _ _ (hglob j ab hj))
      obtain ⟨ab', hab, hbw⟩ := (hwk_get hb).2 j ab hj
      rw [hj] at hab; cases hab
      exact (bwk_sat hj' hbw h1).1
    · intro j ab b c hj hv hr'
      rw [hcut j (hlt0 j ab hj)] at hr'
      exact .inl ⟨j, ab, c, hj, hv, hr'⟩
    · intro j ab b c hj hv hr'
      rw [hcut j (hlt0 j ab hj)] at hr'
      exact (hA0 b ⟨j, ab, c, hj, hv, hr'⟩).2.1
    · intro i j ai aj b c d hi hj hvi hvj hri hrj
      rw [hcut i (hlt0 i ai hi)] at hri
      rw [hcut j (hlt0 j aj hj)] at hrj
      have := hs.inj _ _ _ _ b c d (hglob i ai hi) (hglob j aj hj) (by rw [renB_live]; exact hvi) (by rw [renB_live]; exact hvj) hri hrj
      exact hsigInj i j (by rw [hn0]; exact hlt0 i ai hi) (by rw [hn0]; exact hlt0 j aj hj) this
    · intro a v e
      have := hs.ro a v e
      refine ⟨this.1, this.2.1, fun j ab b c hj hv hr' => ?_⟩
      rw [hcut j (hlt0 j ab hj)] at hr'
      exact this.2.2 _ _ b c (hglob j ab hj) (by rw [renB_live]; exact hv) hr'
  have hr0 : RL ((ρ.via (sig σ H.length)).cut H0.length) args0 vargs := RL.cut _ _ ha ((RL_ren ρ (sig σ H.length) args0 vargs).1 hr)
  refine (hok ⟨w, fun b => ∃ j ab c, H0[j]? = some ab ∧ ab.live = true ∧ ρ (sig σ H.length j) = some (b, c), g.E⟩ _ w vargs hE hs0 hr0).mono ?_
  rintro e w' ⟨ρ1, x, rfl, hle, hs1, hx⟩
  -- the great environment behind the call
  let ρ' : Env := fun i => if i ∈ σ then ρ1 (σ.idxOf i) else if H.length ≤ i then ρ1 (σ.length + (i - H.length)) else ρ i
  have hρσ : ∀ j, ρ' (sig σ H.length j) = ρ1 j := by
    intro j
    by_cases hj : j < σ.length
    · rw [sig_lt hj]
      show (if σ[j] ∈ σ then ρ1 (σ.idxOf σ[j]) else _) = _
      rw [if_pos (List.getElem_mem hj), idxOf_at hnd hj]
    · rw [sig_ge (by omega)]
      have hnm : H.length + (j - σ.length) ∉ σ := fun hm => by have := hσlt _ hm; omega
      show (if _ ∈ σ then _ else if H.length ≤ _ then ρ1 _ else _) = _
      rw [if_neg hnm, if_pos (by omega)]
      congr 1; omega
  have hvia : ρ'.via (sig σ H.length) = ρ1 := funext hρσ
  have hle' : Env.le ρ ρ' := by
    intro i y hy
    show (if i ∈ σ then ρ1 (σ.idxOf i) else if H.length ≤ i then ρ1 (σ.length + (i - H.length)) else ρ i) = some y
    by_cases hm : i ∈ σ
    · rw [if_pos hm]
      obtain ⟨j, hj, rfl⟩ := List.getElem_of_mem hm
      rw [idxOf_at hnd hj]
      refine hle j y ?_
      rw [hcut j (by omega), sig_lt hj]
      exact hy
    · rw [if_neg hm]
      by_cases hge : H.length ≤ i
      · rw [hs.out i hge] at hy; cases hy
      · rw [if_neg hge]; exact hy
  have hfar : ∀ i, i < H.length → i ∉ σ → ρ' i = ρ i := by
    intro i hi hm
    show (if i ∈ σ then ρ1 (σ.idxOf i) else if H.length ≤ i then ρ1 (σ.length + (i - H.length)) else ρ i) = _
    rw [if_neg hm, if_neg (by omega)]
  -- each entry of the great heap behind the call
  have cases' : ∀ (i : Nat) (ab : AB), (updH (sig σ H.length) H σ H1)[i]? = some ab → (∃ j a, i = sig σ H.length j ∧ H1[j]? = some a ∧ ab = renB (sig σ H.length) a) ∨ (i < H.length ∧ i ∉ σ ∧ H[i]? = some ab) := by
    intro i ab hi
    by_cases hm : i ∈ σ
    · obtain ⟨j, hj, rfl⟩ := List.getElem_of_mem hm
      rw [u2 j hj (by omega)] at hi
      cases hi
      exact .inl ⟨j, _, (sig_lt hj).symm, List.getElem?_eq_getElem (by omega), rfl⟩
    · by_cases hlt : i < H.length
      · rw [u3 i hlt hm] at hi
        exact .inr ⟨hlt, hm, hi⟩
      · have e : i = H.length + ((σ.length + (i - H.length)) - σ.length) := by omega
        rw [e, u4 _ (by omega)] at hi
        cases hq : H1[σ.length + (i - H.length)]? with
        | none => rw [hq] at hi; cases hi
        | some a =>
          rw [hq] at hi
          cases hi
          exact .inl ⟨_, a, by rw [sig_ge (by omega)]; omega, hq, rfl⟩
  have hold : ∀ i ab b c, i < H.length → i ∉ σ → H[i]? = some ab → ab.live = true → ρ i = some (b, c) → b < w.heap.size ∧ ¬ (∃ j ab c, H0[j]? = some ab ∧ ab.live = true ∧ ρ (sig σ H.length j) = some (b, c)) := by
    intro i ab b c hi hm hab hv hr'
    refine ⟨hs.lt i ab b c hab hv hr', fun hA => ?_⟩
    obtain ⟨_, _, i', ab', c', hm', h1, h2, h3⟩ := hA0 b hA
    exact hm (hs.inj i i' ab ab' b c c' hab h1 hv h2 hr' h3 ▸ hm')
  refine ⟨ρ', x, rfl, hle', ⟨hs1.os.trans hs.os, hs1.tape.trans hs.tape, hs1.output.trans hs.output, Nat.le_trans hs.size hs1.size, ?_, ?_, ?_, ?_, ?_, ?_, ?_⟩, (R_ren ρ' _ v0 x).2 (by rw [hvia]; exact hx)⟩
  · intro b hb' hnA
    have hbw : b < w.heap.size := Nat.lt_of_lt_of_le hb' hs.size
    rw [hs1.keep b hbw (fun hA => by
      rcases (hA0 b hA).1 with q | q
      · exact hnA q
      · omega)]
    exact hs.keep b hb' hnA
  · intro i ab hi
    rcases cases' i ab hi with ⟨j, a, rfl, h1, rfl⟩ | ⟨h1, h2, h3⟩
    · rw [BSat_ren, hvia]; exact hs1.blk j a h1
    · exact (hs.blk i ab h3).mono hle' (hfar i h1 h2) (fun b c hv hr' => by
        obtain ⟨q1, q2⟩ := hold i ab b c h1 h2 h3 hv hr'
        exact hs1.keep b q1 q2)
  · intro i ab b c hi hv hr'
    rcases cases' i ab hi with ⟨j, a, rfl, h1, rfl⟩ | ⟨h1, h2, h3⟩
    · rw [hρσ] at hr'
      rw [renB_live] at hv
      rcases hs1.own j a b c h1 hv hr' with q | q
      · exact (hA0 b q).1
      · exact .inr (Nat.le_trans hs.size q)
    · rw [hfar i h1 h2] at hr'; exact hs.own i ab b c h3 hv hr'
  · intro i ab b c hi hv hr'
    rcases cases' i ab hi with ⟨j, a, rfl, h1, rfl⟩ | ⟨h1, h2, h3⟩
    · rw [hρσ] at hr'
      rw [renB_live] at hv
      exact hs1.lt j a b c h1 hv hr'
    · rw [hfar i h1 h2] at hr'; exact Nat.lt_of_lt_of_le (hs.lt i ab b c h3 hv hr') hs1.size
  · intro i i' ai ai' b c d hi hi' hv hv' hr1 hr2
    rcases cases' i ai hi with ⟨j, a, rfl, h1, rfl⟩ | ⟨h1, h2, h3⟩
    · rw [hρσ] at hr1
      rw [renB_live] at hv
      rcases cases' i' ai' hi' with ⟨j', a', rfl, k1, rfl⟩ | ⟨k1, k2, k3⟩
      · rw [hρσ] at hr2
        rw [renB_live] at hv'
        rw [hs1.inj j j' a a' b c d h1 k1 hv hv' hr1 hr2]
      · rw [hfar i' k1 k2] at hr2
        obtain ⟨q1, q2⟩ := hold i' ai' b d k1 k2 k3 hv' hr2
        rcases hs1.own j a b c h1 hv hr1 with q | q
        · exact absurd q q2
        · simp only at q; omega
    · rw [hfar i h1 h2] at hr1
      obtain ⟨q1, q2⟩ := hold i ai b c h1 h2 h3 hv hr1
      rcases cases' i' ai' hi' with ⟨j', a', rfl, k1, rfl⟩ | ⟨k1, k2, k3⟩
      · rw [hρσ] at hr2
        rw [renB_live] at hv'
        rcases hs1.own j' a' b d k1 hv' hr2 with q | q
        · exact absurd q q2
        · simp only at q; omega
      · rw [hfar i' k1 k2] at hr2
        exact hs.inj i i' ai ai' b c d h3 k3 hv hv' hr1 hr2
  · intro i hi
    rw [u1] at hi
    show (if i ∈ σ then ρ1 (σ.idxOf i) else if H.length ≤ i then ρ1 (σ.length + (i - H.length)) else ρ i) = none
    rw [if_neg (fun hm => by have := hσlt i hm; omega), if_pos (by omega)]
    exact hs1.out _ (by omega)
  · intro a v e
    have h1 := hs1.ro a v e
    refine ⟨h1.1, h1.2.1, fun i ab b c hi hv hr' => ?_⟩
    rcases cases' i ab hi with ⟨j, a', rfl, k1, rfl⟩ | ⟨k1, k2, k3⟩
    · rw [hρσ] at hr'
      rw [renB_live] at hv
      exact h1.2.2 j a' b c k1 hv hr'
    · rw [hfar i k1 k2] at hr'
      exact (hs.ro a v e).2.2 i ab b c k3 hv hr'

end Go.Proofs.Ytmnpnnegnlhemaa.Eng
namespace Go.Proofs.Ytmnpnnegnlhemaa.Eng
open Go

def putPs : List Tmp → List SV → List SV → List SV
  | p :: ps, s :: as, τ => putPs ps as (tset τ p s)
  | _, _, τ => τ

def begF (e : Cmd → List SV → List AB → Prop) (i l : Nat) (b : Code) : Fin
  | .normal, t, h => match hget h i with
    | .lrec l' τ' r' => (l' = l ∧ r'.state = .ready) ∧ e (.run b []) t (hset h i (.lrec l' τ' (rto r' .busy r'.pending)))
    | _ => False
  | _, _, _ => False

def jumpOf : Ex → Option Code
  | .normal => none
  | .ret => some .ret
  | .exit id => some (.exit id)

def endSt : Option Code → LoopState
  | none => .ready
  | some _ => .done

def rfin (N : Nat) (H' : List AB) (o : Option (List Nat)) (h : List AB) : Prop :=
  match o with
  | none => N ≤ H'.length ∧ hwk H'.length H' h
  | some σ => σ.take N = List.range N ∧ N ≤ H'.length ∧ hwk H'.length H' (mvH h σ σ)

def RFin (N i l : Nat) (v : SV) (H' : List AB) (o : Option (List Nat)) (e : Ex) (_t : List SV) (h : List AB) : Prop :=
  match hget h i with
  | .lrec l' τ' r' => (l' = l ∧ v = .raw (.bool (jumpOf e).isNone)) ∧ rfin N H' o (hset h i (.lrec l' τ' (rto r' (endSt (jumpOf e)) (jumpOf e))))
  | _ => False

theorem RL_putPs {ρ : Env} : ∀ {ps : List Tmp} {args : List SV} {vs : List Value} {τ : List SV} {ts : Array Value}, RL ρ args vs → RL ρ τ ts.toList →
    RL ρ (putPs ps args τ) ((ps.zip vs).foldl (fun tmps (x : Tmp × Value) => tmps.setIfInBounds x.1 x.2) ts).toList
  | [], _, _, _, _, _, h => by simpa [putPs] using h
  | p :: ps, [], [], _, _, _, h => by simpa [putPs] using h
  | p :: ps, s :: as, v :: vs, τ, ts, ha, h => by
    simp only [RL] at ha
    simp only [putPs, List.zip_cons_cons, List.foldl_cons]
    refine RL_putPs ha.2 ?_
    rw [tset_eq, Array.toList_setIfInBounds]
    exact h.set p s v ha.1
  | _ :: _, [], _ :: _, _, _, ha, _ => by simp only [RL] at ha
  | _ :: _, _ :: _, [], _, _, ha, _ => by simp only [RL] at ha

theorem live_of_hget {H : List AB} {i l : Nat} {τ : List SV} {r : Loop} (h : hget H i = .lrec l τ r) : H[i]? = some (.lrec l τ r) := by
  rw [hget_eq] at h
  cases hh : H[i]? with
  | none => rw [hh] at h; cases h
  | some a => rw [hh] at h; simp only [Option.getD_some] at h; rw [h]

/-- The record turns. -/
theorem Rel.put {g : G} {ρ0 ρ : Env} {τ : List SV} {H : List AB} {a : Act} {w : World} (h : Rel g ρ0 ρ τ H a w) {i l : Nat} {c : Nat × Nat} {τ' : List SV} {r r2 : Loop} {t : Array Value}
    (hi : H[i]? = some (.lrec l τ' r)) (hr : ρ i = some (l, c)) (ht : RL ρ τ' t.toList) (hl : l < w.heap.size) : Rel g ρ0 ρ τ (hset H i (.lrec l τ' r2)) a (w.putObj l (.loop { r2 with tmps := t })) := by
  have hput : ∀ k, k ≠ l → (w.putObj l (.loop { r2 with tmps := t })).heap[k]? = w.heap[k]? := fun k hk => World.putObj_heap_other hk
  rw [hset_eq]
  refine ⟨h.sat.upd hi rfl hr rfl rfl rfl rfl (by simp) hput ⟨c, t, hr, World.putObj_heap_same hl, ht⟩, h.tm, h.marks.map fun d _ hd => ?_, h.le⟩
  have hne : d ≠ l := fun e => hd.free i _ l c hi rfl hr e.symm
  refine ⟨⟨hd.size, by simp; exact hd.lt, ?_, hd.ro⟩, hput d hne⟩
  intro j ab b' c' hj hlv hrj
  by_cases e : j = i
  · subst e
    rw [hr] at hrj
    cases hrj
    exact hne.symm
  · rw [List.getElem?_set_ne (Ne.symm e)] at hj
    exact hd.free j ab b' c' hj hlv hrj

theorem yok_of_eng {P : Program} {E : Addr → Option Value} {Γ : Con} {pl : Nat → Plan} {l i : Nat} {τ : List SV} {r : Loop} {as b : Code} {ps : List Tmp} {args : List SV} {H : List AB} {v : SV} {H' : List AB} (hm : P.follows .mixedOrders = true) (hΓ : Con.Sound P E Γ)
    (hi : hget H i = .lrec l τ r) (has : r.assign = as) (hb : r.body = b) (hps : r.params.toList = ps) (hsz : args.length = ps.length) (hpa : plansOk pl false as = true) (hpb : plansOk pl false b = true) (hlen : H.length ≤ H'.length) (n : Nat)
    (h : ∀ F : Fin, (∀ o e t h, RFin H.length i l v H' o e t h → F e t h) → eng P E Γ pl H.length n (begF (eng P E Γ pl H.length n F) i l b) (.run as []) (putPs ps args τ) H) : YOk P E l args H v H' := by
  refine ⟨hlen, ?_⟩
  intro g ρ w vargs hE hs hr
  subst hE
  have hN : ∀ i, H.length ≤ i → ρ i = none := hs.out
  obtain ⟨c, t, h1, h2, h3⟩ := hs.blk i _ (live_of_hget hi)
  have hla := hr.length
  let T : Array Value := (r.params.zip vargs.toArray).foldl (fun tmps (x : Tmp × Value) => tmps.setIfInBounds x.1 x.2) t
  refine ⟨r.fn, T, r.assign, r.body, run_yield (r := { r with tmps := t }) h2 (by
    have : r.params.size = ps.length := by rw [← hps]; simp
    simp only [List.size_toArray]; omega), ?_⟩
  refine roundIn_of_wpIn trivial ?_
  subst has; subst hb
  let R0 : Ending → World → Prop := fun e w' => ∃ ρ' x, e = .returned x ∧ Env.le ρ ρ' ∧ Sat g ρ' H' w' ∧ R ρ' v x
  let F2 : Fin := fun e t h => ∃ o, RFin H.length i l v H' o e t h
  have good2 : Good g ρ F2 (roundPost P l R0) := by
    rintro e τ1 H1 ρ1 a1 w1 hrel ⟨o, hf⟩
    unfold RFin at hf
    split at hf
    · rename_i l' τ' r' hg
      obtain ⟨⟨rfl, hv⟩, hf⟩ := hf
      obtain ⟨c', t', q1, q2, q3⟩ := hrel.sat.blk i _ (live_of_hget hg)
      have hl := hrel.sat.lt i _ _ _ (live_of_hget hg) rfl q1
      have hp := hrel.put (r2 := rto r' (endSt (jumpOf e)) (jumpOf e)) (live_of_hget hg) q1 q3 hl
      have hend := run_endRound (P := P) (jumpOf e) q2
      have e1 : (endSt (jumpOf e)) = (if (jumpOf e).isNone = true then LoopState.ready else LoopState.done) := by cases e <;> rfl
      rw [← e1] at hend
      have fin : R0 (.returned (.bool (jumpOf e).isNone)) (w1.putObj l' (.loop { (rto r' (endSt (jumpOf e)) (jumpOf e)) with tmps := t' })) := by
        have hrel0 : Rel g ρ ρ1 [] (hset H1 i (.lrec l' τ' (rto r' (endSt (jumpOf e)) (jumpOf e)))) { tmps := #[], defers := [] } (w1.putObj l' (.loop { (rto r' (endSt (jumpOf e)) (jumpOf e)) with tmps := t' })) :=
          ⟨hp.sat, by simp [RL], trivial, hp.le⟩
        cases o with
        | none =>
          have hn := hrel0.narrow (T := []) hN ⟨hf.1, hf.2, by simp [wk], by simp [scs]⟩
          exact ⟨_, _, rfl, hn.le, hn.sat, by rw [hv]; simp [R]⟩
        | some σ =>
          have hn := (hrel0.mv hN hf.1).narrow (T := []) hN ⟨hf.2.1, hf.2.2, by simp [wk, renJs], by simp [scs]⟩
          exact ⟨_, _, rfl, hn.le, hn.sat, by rw [hv]; simp [R]⟩
      cases e with
      | normal => exact ⟨_, _, hend, fin⟩
      | ret => exact ⟨_, _, hend, fin⟩
      | exit id => exact ⟨_, _, hend, fin⟩
    · exact hf.elim
  refine (eng_sound (rd := some l) (rf := false) (fun e => by cases e) (N := H.length) (ρ0 := ρ) hm hΓ hN n (begF (eng P g.E Γ pl H.length n F2) i l r.body) _ ?_ (putPs ps args τ) H ρ { tmps := T, defers := [] } w ⟨hs, ?_, trivial, Env.le_refl _⟩).1 r.assign [] hpa rfl (h F2 (fun o e t h hh => ⟨o, hh⟩))
  · intro e τ1 H1 ρ1 a1 w1 hrel hf
    unfold begF at hf
    split at hf
    · split at hf
      · rename_i l' τ' r' hg
        obtain ⟨⟨rfl, hst⟩, hf⟩ := hf
        obtain ⟨c', t', q1, q2, q3⟩ := hrel.sat.blk i _ (live_of_hget hg)
        have hl := hrel.sat.lt i _ _ _ (live_of_hget hg) rfl q1
        have hp := hrel.put (r2 := rto r' .busy r'.pending) (live_of_hget hg) q1 q3 hl
        exact ⟨_, run_beginRound q2 hst, (eng_sound (rd := some l') (rf := false) (fun e => by cases e) (N := H.length) (ρ0 := ρ) hm hΓ hN n F2 _ good2 _ _ ρ1 _ _ hp).1 r.body [] hpb rfl hf⟩
      · exact hf.elim
    · exact hf.elim
  · show RL ρ (putPs ps args τ) T.toList
    rw [show T = (ps.zip vargs).foldl (fun tmps (x : Tmp × Value) => tmps.setIfInBounds x.1 x.2) t from by
      show (r.params.zip vargs.toArray).foldl _ t = _
      rw [← Array.foldl_toList, Array.toList_zip, hps]]
    exact RL_putPs hr h3

end Go.Proofs.Ytmnpnnegnlhemaa.Eng
namespace Go.Proofs.Ytmnpnnegnlhemaa.Eng
open Go Go.ChangeShapes Go.WideShapes Go.ChangeAt Go.RowKit

theorem cell_lt {W : World} {a : Addr} {v : Value} (h : W.cell? a = some v) : a.block < W.heap.size := by
  unfold World.cell? at h
  rcases Nat.lt_or_ge a.block W.heap.size with k | k
  · exact k
  · rw [Array.getElem?_eq_none k] at h
    simp at h

def R0 : Env := fun _ => none

/-- A law that the engine shows true leaves all that was there as it was. -/
theorem calls_of_ok {P : Program} {W : World} {f : FuncId} {args : Array Value} {sv : List SV} {H' : List AB} {b : Bool}
    (hr : RL R0 sv args.toList) (h : Ok P W.cell? f sv [] (.raw (.bool b)) H') : Calls P f args W fun e w' => e = .returned (.bool b) ∧ Below W.heap.size W w' := by
  have hs : Sat ⟨W, fun _ => False, W.cell?⟩ R0 [] W := by
    refine ⟨rfl, rfl, rfl, Nat.le_refl _, fun _ _ _ => rfl, ?_, ?_, ?_, ?_, fun _ _ => rfl, fun a v e => ⟨e, cell_lt e, ?_⟩⟩
    all_goals intro i
    all_goals simp
  have := h.2.2 ⟨W, fun _ => False, W.cell?⟩ R0 W args.toList rfl hs hr
  refine (show Calls P f args W _ from by simpa using this).mono ?_
  rintro e w' ⟨ρ', x, rfl, _, hs', hx⟩
  simp only [R] at hx
  subst hx
  exact ⟨rfl, hs'.os, hs'.tape, hs'.output, hs'.size, fun k hk => hs'.keep k hk (fun h => h)⟩

theorem trodAll_below {H : Type} {enc : TypeId × Value → H} {P : Program} (hl : laidOutB P = true) {W W' : World} (hb : Below W.heap.size W W') :
    ∀ {ts : List TypeId} {vs : List Value} {ds : List (DataW H)} {ps : List MemPlace}, (∀ t ∈ ts, P.readableRec t = true ∧ t < P.types.size) → DataW.TrodAll enc P W 0 (fun _ => true) true ts vs ds ps →
      (∀ x ∈ ps, x.block < W.heap.size) → DataW.TrodAll enc P W' 0 (fun b => decide (b < W.heap.size)) true ts vs ds ps
  | [], [], [], _, _, h, _ => h
  | t :: ts, v :: vs, d :: ds, _, ht, h, hp => by
    obtain ⟨p, q, h1, h2, rfl⟩ := h
    exact ⟨p, q, Below.trod hl (ht t (by simp)).1 (ht t (by simp)).2 h1 hb (fun x hx => hp x (by simp [hx])), trodAll_below hl hb (fun t' h' => ht t' (by simp [h'])) h2 (fun x hx => hp x (by simp [hx])), rfl⟩
  | [], [], _ :: _, _, _, h, _ => h.elim
  | [], _ :: _, _, _, _, h, _ => by cases h
  | _ :: _, [], _, _, _, h, _ => by cases h
  | _ :: _, _ :: _, [], _, _, h, _ => by cases h

/-! ### Plain data of integers -/
def contig (P : Program) (total : Nat) : List Field → List (List IntKind) → Nat → Bool
  | [], [], o => o == total
  | f :: l, ks :: kss, o => (f.offset == o && P.cellsOf f.type == ks.length) && contig P total l kss (o + ks.length)
  | _, _, _ => false

/-- The kinds of the cells of a type of integers, structs and arrays. -/
def flat (P : Program) : Nat → TypeId → Option (List IntKind)
  | 0, _ => none
  | n + 1, t => match P.underlying t with
    | some (.int k) => some [k]
    | some (.struct fs) => match fs.toList.mapM (fun f => flat P n f.type) with
      | some kss => match contig P (P.cellsOf t) fs.toList kss 0 with
        | true => some kss.flatten
        | false => none
      | none => none
    | some (.array m e) => match flat P n e with
      | some ks => match P.cellsOf e == ks.length && P.cellsOf t == m * ks.length with
        | true => some (List.replicate m ks).flatten
        | false => none
      | none => none
    | _ => none

/-- Cells of these kinds. -/
def Ints : List IntKind → List Value → Prop
  | [], [] => True
  | k :: ks, v :: vs => (∃ n, v = .int k n ∧ (Lit.int k n).wf = true) ∧ Ints ks vs
  | _, _ => False

theorem Ints.length : ∀ {ks : List IntKind} {vs : List Value}, Ints ks vs → vs.length = ks.length
  | [], [], _ => rfl
  | _ :: ks, _ :: vs, h => by simp [Ints.length h.2]
  | [], _ :: _, h => h.elim
  | _ :: _, [], h => h.elim

theorem Ints.append : ∀ {ks ks' : List IntKind} {vs vs' : List Value}, Ints ks vs → Ints ks' vs' → Ints (ks ++ ks') (vs ++ vs')
  | [], _, [], _, _, h => h
  | _ :: _ks, _, _ :: _vs, _, h, h' => ⟨h.1, Ints.append h.2 h'⟩
  | [], _, _ :: _, _, h, _ => h.elim
  | _ :: _, _, [], _, h, _ => h.elim

theorem mapM_cons_some {α β : Type} {q : α → Option β} {a : α} {l : List α} {r : List β} (h : (a :: l).mapM q = some r) : ∃ b r', q a = some b ∧ l.mapM q = some r' ∧ r = b :: r' := by
  rw [List.mapM_cons] at h
  cases h1 : q a with
  | none => simp [h1] at h
  | some b =>
    cases h2 : l.mapM q with
    | none => simp [h1, h2] at h
    | some r' => simp [h1, h2] at h; exact ⟨b, r', rfl, rfl, h.symm⟩

section
variable {H : Type} {enc : TypeId × Value → H} {P : Program} {w : World} {base : Nat} {spare : Nat → Bool} {held : Bool}

theorem fields_ints {cs : List Value} (q : Field → Option (List IntKind)) : ∀ (fs : List Field) (o : Nat) (kss : List (List IntKind)), contig P cs.length fs kss o = true → fs.mapM q = some kss →
    (∀ f ∈ fs, ∀ ks, q f = some ks → Ints ks ((cs.drop f.offset).take (P.cellsOf f.type))) → Ints kss.flatten (cs.drop o)
  | [], o, kss, hc, hm, _ => by
    simp at hm
    subst hm
    simp only [contig, beq_iff_eq] at hc
    subst hc
    simp [Ints]
  | f :: fs, o, kss, hc, hm, hq => by
    obtain ⟨ks, kr, h1, h2, rfl⟩ := mapM_cons_some hm
    simp only [contig, Bool.and_eq_true, beq_iff_eq] at hc
    obtain ⟨⟨rfl, he⟩, hc⟩ := hc
    have hi := hq f (by simp) ks h1
    rw [he] at hi
    have := hi.append (fields_ints q fs _ kr hc h2 (fun g hg => hq g (by simp [hg])))
    rw [List.flatten_cons]
    rwa [← List.drop_drop, List.take_append_drop] at this

theorem arr_ints (ks : List IntKind) : ∀ (m : Nat) (cs : List Value), cs.length = m * ks.length → (∀ i, i < m → Ints ks ((cs.drop (i * ks.length)).take ks.length)) → Ints (List.replicate m ks).flatten cs
  | 0, cs, hl, _ => by
    have : cs = [] := by simpa using hl
    subst this
    simp [Ints]
  | m + 1, cs, hl, h => by
    rw [List.replicate_succ, List.flatten_cons]
    have h0 := h 0 (by omega)
    simp only [Nat.zero_mul, List.drop_zero] at h0
    have := h0.append (arr_ints ks m (cs.drop ks.length) (by simp [hl, Nat.succ_mul]) (fun i hi => by
      have := h (i + 1) (by omega)
      rwa [Nat.succ_mul, Nat.add_comm, ← List.drop_drop] at this))
    rwa [List.take_append_drop] at this

theorem flat_ints : ∀ (n : Nat) {t : TypeId} {ks : List IntKind} {fuel : Nat} {cs : List Value} {x : DataW H × List MemPlace}, flat P n t = some ks → DataW.trod enc P w base spare held fuel t cs = some x → Ints ks cs
  | 0, _, _, _, _, _, h, _ => by simp [flat] at h
  | n + 1, t, ks, fuel, cs, x, h, hx => by
    unfold flat at h
    split at h
    · rename_i k hu
      cases h
      obtain ⟨m, rfl, _, hw⟩ := DataW.trod_int hu hx
      exact ⟨⟨m, rfl, hw⟩, trivial⟩
    · rename_i fs hu
      split at h
      · rename_i kss hm
        split at h
        · rename_i hc
          cases h
          obtain ⟨xs, m, rfl, rfl, hl, hlen, hf⟩ := DataW.trod_struct hu hx
          rw [← hl] at hc
          have := fields_ints (P := P) (cs := cs) (fun f => flat P n f.type) fs.toList 0 kss hc hm (fun f hf' ks hk => by
            obtain ⟨i, hi, rfl⟩ := List.mem_iff_getElem.1 hf'
            have e := hf i fs.toList[i] (by simp)
            have hi' : i < xs.length := by simp at hi; omega
            rw [List.getElem?_eq_getElem hi'] at e
            exact flat_ints n hk e)
          simpa using this
        · cases h
      · cases h
    · rename_i m e hu
      split at h
      · rename_i ks' hk
        split at h
        · rename_i hc
          cases h
          simp only [Bool.and_eq_true, beq_iff_eq] at hc
          obtain ⟨xs, m', rfl, rfl, hl, hlen, hf⟩ := DataW.trod_array hu hx
          refine arr_ints ks' m cs (by rw [hl, hc.2]) (fun i hi => ?_)
          have e := hf i hi
          rw [List.getElem?_eq_getElem (by omega), hc.1] at e
          exact flat_ints n hk e
        · cases h
      · cases h
    · cases h

/-- A slice of such data, in memory that is only read. -/
theorem open_rows {t e : TypeId} {n fuel : Nat} {ks : List IntKind} {cs : List Value} {x : DataW H × List MemPlace} (ht : P.underlying t = some (.slice e)) (hk : flat P n e = some ks) (hpos : 0 < P.cellsOf e) (h : DataW.trod enc P w base spare held fuel t cs = some x) :
    (∃ a c, cs = [.slice a 0 c]) ∨ ∃ b o len cap, cs = [.slice (some ⟨b, o, none⟩) len cap] ∧ 0 < len ∧ len ≤ maxLen ∧
      ∀ i, i < len → ∃ vs, Ints ks vs ∧ vs.length = P.cellsOf e ∧ ∀ j v, vs[j]? = some v → w.cell? ⟨b, o + i * P.cellsOf e + j, none⟩ = some v := by
  rcases Deep.open_slice ht h with ⟨rfl, _⟩ | ⟨a, len, cap, m, n', D, Pl, rfl, hb, hl, hm, hmm, _, hx⟩
  · exact .inl ⟨_, _, rfl⟩
  · rcases Nat.eq_zero_or_pos len with rfl | h0
    · exact .inl ⟨_, _, rfl⟩
    · right
      have hle : len ≤ m := by rw [hmm]; split <;> omega
      obtain ⟨b, o, sp⟩ := a
      obtain ⟨c0, q1, _⟩ := hx 0 (by omega)
      obtain ⟨_, q2, q3⟩ := World.cells?_some q1
      have hsp : sp = none := by
        have := q3 0 hpos
        rw [List.getElem?_eq_getElem (by omega)] at this
        simpa [Addr.add] using World.cell?_spot this
      subst hsp
      refine ⟨b, o, len, cap, rfl, h0, by omega, fun i hi => ?_⟩
      obtain ⟨vs, r1, r2⟩ := hx i (by omega)
      obtain ⟨_, r3, r4⟩ := World.cells?_some r1
      refine ⟨vs, flat_ints n hk r2, r3, fun j v hj => ?_⟩
      have hjl : j < vs.length := by
        rcases Nat.lt_or_ge j vs.length with k | k
        · exact k
        · rw [List.getElem?_eq_none k] at hj; cases hj
      have := r4 j (by omega)
      rw [hj, Deep.add_add] at this
      rw [← this]
      congr 1
      simp only [Addr.add]
      split
      · rename_i e0
        simp []
      · simp []
/-- A struct or an array of integers, as an argument. -/
theorem open_agg {t : TypeId} {n b0 : Nat} {ks : List IntKind} {v : Value} {d : DataW H} {p : List MemPlace} (hu : (match P.underlying t with | some (.struct _) | some (.array _ _) => true | _ => false) = true) (hk : flat P n t = some ks)
    (hval : Value.okWide P w .any b0 t v) (h : DataW.Trod enc P w base spare held t v d p) : ∃ cs : Array Value, v = .agg cs ∧ Ints ks cs.toList := by
  obtain ⟨m, hm⟩ := h
  have := flat_ints n hk hm
  unfold Value.okWide at hval
  split at hval
  · obtain ⟨cs, rfl, _⟩ := hval; exact ⟨cs, rfl, by simpa [Value.cells] using this⟩
  · obtain ⟨cs, rfl, _⟩ := hval; exact ⟨cs, rfl, by simpa [Value.cells] using this⟩
  · exfalso
    split at hu
    · simp_all
    · simp_all
    · cases hu
end

theorem Ints.cons {k : IntKind} {ks : List IntKind} {vs : List Value} (h : Ints (k :: ks) vs) : ∃ n r, vs = .int k n :: r ∧ (Lit.int k n).wf = true ∧ Ints ks r := by
  cases vs with
  | nil => exact h.elim
  | cons v vs => obtain ⟨⟨n, rfl, hw⟩, h⟩ := h; exact ⟨n, vs, rfl, hw, h⟩
theorem Ints.nil {vs : List Value} (h : Ints [] vs) : vs = [] := by
  cases vs with
  | nil => rfl
  | cons => exact h.elim
theorem RL_one {s : SV} {v : Value} (h : R R0 s v) : RL R0 [s] [v] := by simp only [RL]; exact ⟨h, trivial⟩
theorem RL_two {s : SV} {v : Value} {l : List SV} {r : List Value} (h : R R0 s v) (h' : RL R0 l r) : RL R0 (s :: l) (v :: r) := by simp only [RL]; exact ⟨h, h'⟩
theorem RL_nil0 : RL R0 [] [] := by simp only [RL]
theorem R_raw0 (v : Value) : R R0 (.raw v) v := by simp only [R]
theorem R_agg0 {cs : Array Value} {l : List Value} (h : cs.toList = l) : R R0 (.agg (l.map SV.raw)) (.agg cs) := by
  simp only [R]
  exact ⟨cs, rfl, by rw [h]; exact RL.raws l⟩

end Go.Proofs.Ytmnpnnegnlhemaa.Eng
