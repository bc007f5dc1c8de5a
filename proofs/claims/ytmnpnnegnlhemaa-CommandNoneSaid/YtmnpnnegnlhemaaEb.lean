/- The engine's operations: what each computes on symbolic values, and that the model does so. Plain lemmas; no statement of the seat. -/
import Derived.Test.YtmnpnnegnlhemaaEa
namespace Go.Proofs.Ytmnpnnegnlhemaa.Eng
open Go

/-- What an operation gives: under 'pre' the value and the heap behind it. -/
structure Res where
  pre : Prop
  val : SV
  heap : List AB

def no : Res := ⟨False, .junk, []⟩

def hget : List AB → Nat → AB
  | [], _ => .dead
  | a :: _, 0 => a
  | _ :: l, n + 1 => hget l n

def hset : List AB → Nat → AB → List AB
  | [], _, _ => []
  | _ :: l, 0, x => x :: l
  | a :: l, n + 1, x => a :: hset l n x

theorem hget_some : ∀ {H : List AB} {i : Nat}, (hget H i).live = true → H[i]? = some (hget H i)
  | [], _, h => by simp [hget, AB.live] at h
  | a :: _, 0, _ => by simp [hget]
  | _ :: l, n + 1, h => by simpa [hget] using hget_some (H := l) (i := n) (by simpa [hget] using h)

theorem hset_eq : ∀ (H : List AB) (i : Nat) (x : AB), hset H i x = H.set i x
  | [], _, _ => by simp [hset]
  | _ :: l, 0, x => by simp [hset]
  | a :: l, n + 1, x => by simp [hset, hset_eq l n x]

/-! ### Looks into the program's table -/
def tsize (P : Program) (t : TypeId) : Nat := P.cellsOf t
def tbytes (P : Program) (t : TypeId) : Nat := P.bytesOf t
def tknown (P : Program) (t : TypeId) : Bool := (P.info? t).isSome && (P.underlying t).isSome
def tagg (P : Program) (t : TypeId) : Bool := match P.underlying t with | some (.struct _) | some (.array _ _) => true | _ => false
def tzero (P : Program) (t : TypeId) : Option (List Value) := ((P.info? t).bind (·.zero)).map (·.cells.toList)
def telem (P : Program) (t : TypeId) : Option TypeId := match P.underlying t with | some (.slice e) => some e | _ => none
def tarr (P : Program) (t : TypeId) : Option (Nat × TypeId) := match P.underlying t with | some (.array n e) => some (n, e) | _ => none
/-- A field: its offset, its size, whether it is an aggregate. -/
def tfield (P : Program) (t : TypeId) (f : Nat) : Option (Nat × Nat × Bool) := match P.underlying t with
  | some (.struct fs) => (fs[f]?).bind fun x => if tknown P x.type then some (x.offset, tsize P x.type, tagg P x.type) else none
  | _ => none
def tint (P : Program) (t : TypeId) : Option IntKind := match P.underlying t with | some (.int k) => some k | _ => none
def tptr (P : Program) (t : TypeId) : Bool := match P.underlying t with | some (.pointer _) => true | _ => false

theorem run_sizeOf' {P : Program} {t : TypeId} (h : tknown P t = true) (w : World) : (sizeOf t).run P w = .ok (tsize P t) w := by
  unfold tknown at h
  cases hi : P.info? t with
  | none => simp [hi] at h
  | some i => simp [sizeOf, typeInfo, hi, tsize, Program.cellsOf]

theorem run_isAgg' {P : Program} {t : TypeId} (h : tknown P t = true) (w : World) : (isAgg t).run P w = .ok (tagg P t) w := by
  unfold tknown at h
  cases hu : P.underlying t with
  | none => simp [hu] at h
  | some d => cases d <;> simp [isAgg, run_underlying hu, tagg, hu]

/-! ### Numbers -/
def ibin (op : BinOp) (k : IntKind) (a b : Int) : Prop × Value :=
  match op with
  | .add => (True, .int k (k.wrap (a + b)))
  | .sub => (True, .int k (k.wrap (a - b)))
  | .mul => (True, .int k (k.wrap (a * b)))
  | .quo => (b ≠ 0, .int k (k.wrap (a.tdiv b)))
  | .rem => (b ≠ 0, .int k (a.tmod b))
  | .and => (True, .int k (bits .and k a b))
  | .or => (True, .int k (bits .or k a b))
  | .xor => (True, .int k (bits .xor k a b))
  | .andNot => (True, .int k (bits .andNot k a b))
  | .shl => (0 ≤ b, .int k (k.wrap (a * 2 ^ (min b.toNat k.bits))))
  | .shr => (0 ≤ b, .int k (a.fdiv (2 ^ (min b.toNat k.bits))))
  | .eql => (True, .bool (decide (a = b)))
  | .neq => (True, .bool (!decide (a = b)))
  | .lss => (True, .bool (decide (a < b)))
  | .leq => (True, .bool (decide (a ≤ b)))
  | .gtr => (True, .bool (decide (b < a)))
  | .geq => (True, .bool (decide (b ≤ a)))

def shiftOp : BinOp → Bool | .shl | .shr => true | _ => false

theorem run_ibin {P : Program} (op : BinOp) (t : TypeId) (k k' : IntKind) (a b : Int) (hk : shiftOp op = true ∨ k = k') (w : World) (h : (ibin op k a b).1) :
    (binOp op t (.int k a) (.int k' b)).run P w = .ok (ibin op k a b).2 w := by
  cases op <;> simp only [ibin, shiftOp, Bool.false_eq_true, false_or, true_or] at h hk ⊢ <;> (try subst hk) <;>
    first
    | (simp [go_sem, Op.intArith]; done)
    | (simp [go_sem, Op.intDiv, h]; done)
    | (simp only [binOp_shl, Op.shift, if_neg (show ¬ b < 0 by omega)]; rfl)
    | (simp only [binOp_shr, Op.shift, if_neg (show ¬ b < 0 by omega)]; rfl)
    | (simp only [binOp_eql, binOp_neq]; simp [bne, BEq.beq]; done)
    | (simp [binOp_gtr, binOp_geq, binOp_lss, binOp_leq]; done)

theorem run_eqGuard_int {P : Program} (op : BinOp) (t : TypeId) (x y : Operand) (k : IntKind) (a : Int) (v : Value) (w : World) : (eqGuard op t x y (.int k a) v).run P w = .ok () w := by
  cases op <;> rfl
theorem run_eqGuard_bool {P : Program} (op : BinOp) (t : TypeId) (x y : Operand) (a : Bool) (v : Value) (w : World) : (eqGuard op t x y (.bool a) v).run P w = .ok () w := by
  cases op <;> rfl
theorem run_eqGuard_ptr {P : Program} (op : BinOp) (t : TypeId) (x y : Operand) (a : Option Addr) (v : Value) (w : World) : (eqGuard op t x y (.pointer a) v).run P w = .ok () w := by
  cases op <;> rfl

/-- An aggregate of this type, held against another one by its cells: a fact of the program's table, laid once a type. -/
def StructEq (P : Program) (t : TypeId) (n : Nat) : Prop :=
  ∀ (x y : Operand) (xs ys : List Value) (w : World), xs.length = n → ys.length = n → (∀ v ∈ xs, ∃ a, v = .int .i64 a) → (∀ v ∈ ys, ∃ a, v = .int .i64 a) →
    (∀ op, (eqGuard op t x y (.agg xs.toArray) (.agg ys.toArray)).run P w = .ok () w) ∧
    ∃ b : Bool, (b = true ↔ xs = ys) ∧ (Op.equal t (.agg xs.toArray) (.agg ys.toArray)).run P w = .ok b w

def intsEq : List SV → List SV → Prop × Bool
  | [], [] => (True, true)
  | .raw (.int .i64 a) :: l, .raw (.int .i64 b) :: r => ((intsEq l r).1, decide (a = b) && (intsEq l r).2)
  | _, _ => (False, false)

theorem intsEq_spec {ρ : Env} : ∀ (l r : List SV) (xs ys : List Value), (intsEq l r).1 → RL ρ l xs → RL ρ r ys →
    (∀ v ∈ xs, ∃ a, v = .int .i64 a) ∧ (∀ v ∈ ys, ∃ a, v = .int .i64 a) ∧ xs.length = ys.length ∧ ((intsEq l r).2 = true ↔ xs = ys)
  | [], [], [], [], _, _, _ => by simp [intsEq]
  | [], [], _ :: _, _, _, h, _ => by simp only [RL] at h
  | [], [], [], _ :: _, _, _, h => by simp only [RL] at h
  | s :: l, s' :: r, [], _, _, h, _ => by simp only [RL] at h
  | s :: l, s' :: r, _ :: _, [], _, _, h => by simp only [RL] at h
  | s :: l, s' :: r, x :: xs, y :: ys, hp, h, h' => by
    unfold intsEq at hp ⊢
    split at hp
    · rename_i heq _; cases heq
    · rename_i a l' b r' e1 e2
      cases e1; cases e2
      simp only [RL, R] at h h'
      obtain ⟨rfl, h⟩ := h
      obtain ⟨rfl, h'⟩ := h'
      have ih := intsEq_spec l r xs ys hp h h'
      refine ⟨?_, ?_, by simp [ih.2.2.1], ?_⟩
      · intro v hv; rcases List.mem_cons.1 hv with rfl | hv
        · exact ⟨a, rfl⟩
        · exact ih.1 v hv
      · intro v hv; rcases List.mem_cons.1 hv with rfl | hv
        · exact ⟨b, rfl⟩
        · exact ih.2.1 v hv
      · simp [ih.2.2.2]
    · exact hp.elim
  | [], _ :: _, _, _, hp, _, _ => by simp [intsEq] at hp
  | _ :: _, [], _, _, hp, _, _ => by simp [intsEq] at hp

def sBin (P : Program) (H : List AB) (op : BinOp) (t : TypeId) : SV → SV → Res
  | .raw (.int k a), .raw (.int k' b) => ⟨(shiftOp op = true ∨ k = k') ∧ (ibin op k a b).1, .raw (ibin op k a b).2, H⟩
  | .raw (.bool a), .raw (.bool b) => match op with
    | .eql => ⟨P.underlying t = some .bool, .raw (.bool (a == b)), H⟩
    | .neq => ⟨P.underlying t = some .bool, .raw (.bool (!(a == b))), H⟩
    | _ => no
  | .raw (.pointer none), .raw (.pointer none) => match op with
    | .eql => ⟨tptr P t = true, .raw (.bool true), H⟩
    | .neq => ⟨tptr P t = true, .raw (.bool false), H⟩
    | _ => no
  | .ptr _ _, .raw (.pointer none) => match op with
    | .eql => ⟨tptr P t = true, .raw (.bool false), H⟩
    | .neq => ⟨tptr P t = true, .raw (.bool true), H⟩
    | _ => no
  | .agg l, .agg r => match op with
    | .eql => ⟨StructEq P t l.length ∧ (intsEq l r).1, .raw (.bool (intsEq l r).2), H⟩
    | .neq => ⟨StructEq P t l.length ∧ (intsEq l r).1, .raw (.bool (!(intsEq l r).2)), H⟩
    | _ => no
  | _, _ => no

theorem run_equal_bool {P : Program} {t : TypeId} (h : P.underlying t = some .bool) (a b : Bool) (w : World) : (Op.equal t (.bool a) (.bool b)).run P w = .ok (a == b) w := by
  have k : ∀ d : Nat, (Op.equalIn (d + 1) t (.bool a) (.bool b)).run P w = .ok (a == b) w := fun d => by
    simp [Op.equalIn, run_underlying h]
  exact k 9999
theorem run_eql_bool {P : Program} {t : TypeId} (h : P.underlying t = some .bool) (a b : Bool) (w : World) : (binOp .eql t (.bool a) (.bool b)).run P w = .ok (.bool (a == b)) w := by
  have e : binOp .eql t (.bool a) (.bool b) = (do pure (.bool (← Op.equal t (.bool a) (.bool b)))) := rfl
  rw [e]
  simp [run_equal_bool h]
theorem run_neq_bool {P : Program} {t : TypeId} (h : P.underlying t = some .bool) (a b : Bool) (w : World) : (binOp .neq t (.bool a) (.bool b)).run P w = .ok (.bool (!(a == b))) w := by
  have e : binOp .neq t (.bool a) (.bool b) = (do pure (.bool (!(← Op.equal t (.bool a) (.bool b))))) := rfl
  rw [e]
  simp [run_equal_bool h]
theorem run_equal_ptr {P : Program} {t : TypeId} (h : tptr P t = true) (a : Option Addr) (w : World) : (Op.equal t (.pointer a) (.pointer none)).run P w = .ok a.isNone w := by
  unfold tptr at h
  split at h
  · rename_i e hu
    have k : ∀ d : Nat, (Op.equalIn (d + 1) t (.pointer a) (.pointer none)).run P w = .ok a.isNone w := fun d => by
      cases a <;> simp [Op.equalIn, run_underlying hu]
    exact k 9999
  · cases h
theorem run_eql_ptr {P : Program} {t : TypeId} (h : tptr P t = true) (a : Option Addr) (w : World) : (binOp .eql t (.pointer a) (.pointer none)).run P w = .ok (.bool a.isNone) w := by
  have e : binOp .eql t (.pointer a) (.pointer none) = (do pure (.bool (← Op.equal t (.pointer a) (.pointer none)))) := by cases a <;> rfl
  rw [e]
  simp [run_equal_ptr h]
theorem run_neq_ptr {P : Program} {t : TypeId} (h : tptr P t = true) (a : Option Addr) (w : World) : (binOp .neq t (.pointer a) (.pointer none)).run P w = .ok (.bool (!a.isNone)) w := by
  have e : binOp .neq t (.pointer a) (.pointer none) = (do pure (.bool (!(← Op.equal t (.pointer a) (.pointer none))))) := by cases a <;> rfl
  rw [e]
  simp [run_equal_ptr h]
theorem run_eql_agg {P : Program} {t : TypeId} (a b : Array Value) (w : World) (r : Bool) (h : (Op.equal t (.agg a) (.agg b)).run P w = .ok r w) : (binOp .eql t (.agg a) (.agg b)).run P w = .ok (.bool r) w := by
  have e : binOp .eql t (.agg a) (.agg b) = (do pure (.bool (← Op.equal t (.agg a) (.agg b)))) := rfl
  rw [e]
  simp [h]
theorem run_neq_agg {P : Program} {t : TypeId} (a b : Array Value) (w : World) (r : Bool) (h : (Op.equal t (.agg a) (.agg b)).run P w = .ok r w) : (binOp .neq t (.agg a) (.agg b)).run P w = .ok (.bool (!r)) w := by
  have e : binOp .neq t (.agg a) (.agg b) = (do pure (.bool (!(← Op.equal t (.agg a) (.agg b))))) := rfl
  rw [e]
  simp [h]

theorem sBin_sound {P : Program} {ρ : Env} {H : List AB} {op : BinOp} {t : TypeId} {x y : SV} {vx vy : Value} (ox oy : Operand) (hx : R ρ x vx) (hy : R ρ y vy) (h : (sBin P H op t x y).pre) (w : World) :
    (sBin P H op t x y).heap = H ∧ ∃ v, (eqGuard op t ox oy vx vy).run P w = .ok () w ∧ (binOp op t vx vy).run P w = .ok v w ∧ R ρ (sBin P H op t x y).val v := by
  unfold sBin at h ⊢
  split at h
  · rename_i k a k' b
    simp only [R] at hx hy
    subst hx; subst hy
    exact ⟨rfl, _, run_eqGuard_int .., run_ibin op t k k' a b h.1 w h.2, by simp only [R]⟩
  · rename_i a b
    simp only [R] at hx hy
    subst hx; subst hy
    cases op <;> first | exact h.elim | skip
    · exact ⟨rfl, _, run_eqGuard_bool .., run_eql_bool h a b w, by simp only [R]⟩
    · exact ⟨rfl, _, run_eqGuard_bool .., run_neq_bool h a b w, by simp only [R]⟩
  · simp only [R] at hx hy
    subst hx; subst hy
    cases op <;> first | exact h.elim | skip
    · exact ⟨rfl, _, run_eqGuard_ptr .., run_eql_ptr h _ w, by simp [R]⟩
    · exact ⟨rfl, _, run_eqGuard_ptr .., run_neq_ptr h _ w, by simp [R]⟩
  · simp only [R] at hx hy
    obtain ⟨b, c, _, rfl⟩ := hx
    subst hy
    cases op <;> first | exact h.elim | skip
    · exact ⟨rfl, _, run_eqGuard_ptr .., run_eql_ptr h _ w, by simp [R]⟩
    · exact ⟨rfl, _, run_eqGuard_ptr .., run_neq_ptr h _ w, by simp [R]⟩
  · rename_i l r
    simp only [R] at hx hy
    obtain ⟨xs, rfl, hx⟩ := hx
    obtain ⟨ys, rfl, hy⟩ := hy
    cases op <;> first | exact h.elim | skip
    all_goals
      obtain ⟨h1, h2⟩ := h
      obtain ⟨i1, i2, i3, i4⟩ := intsEq_spec l r xs.toList ys.toList h2 hx hy
      obtain ⟨g1, b, g2, g3⟩ := h1 ox oy xs.toList ys.toList w hx.length.symm (i3 ▸ hx.length.symm) i1 i2
      have hb : b = (intsEq l r).2 := by
        rw [Bool.eq_iff_iff, g2, i4]
      simp only [Array.toArray_toList] at g1 g3
    · exact ⟨rfl, .bool b, g1 _, run_eql_agg _ _ _ _ g3, by simp only [R, hb]⟩
    · exact ⟨rfl, .bool (!b), g1 _, run_neq_agg _ _ _ _ g3, by simp only [R, hb]⟩
  · exact h.elim

def sUn (H : List AB) (op : UnOp) : SV → Res
  | .raw (.bool b) => match op with
    | .not => ⟨True, .raw (.bool (!b)), H⟩
    | _ => no
  | .raw (.int k n) => match op with
    | .neg => ⟨True, .raw (.int k (k.wrap (0 - n))), H⟩
    | .xor => ⟨True, .raw (.int k (bits .xor k (if k.signed then -1 else k.max) n)), H⟩
    | _ => no
  | _ => no

theorem sUn_sound {P : Program} {ρ : Env} {H : List AB} {op : UnOp} {x : SV} {vx : Value} (hx : R ρ x vx) (h : (sUn H op x).pre) (w : World) :
    (sUn H op x).heap = H ∧ ∃ v, (Op.unary op vx).run P w = .ok v w ∧ R ρ (sUn H op x).val v := by
  unfold sUn at h ⊢
  split at h
  · simp only [R] at hx; subst hx
    cases op <;> first | exact h.elim | skip
    exact ⟨rfl, _, rfl, by simp only [R]⟩
  · rename_i k n
    simp only [R] at hx; subst hx
    cases op <;> first | exact h.elim | skip
    · exact ⟨rfl, .int k (k.wrap (0 - n)), rfl, by simp only [R]⟩
    · exact ⟨rfl, .int k (bits .xor k (if k.signed then -1 else k.max) n), rfl, by simp only [R]⟩
  · exact h.elim

def sConv (P : Program) (H : List AB) (src dst : TypeId) : SV → Res
  | .raw (.int _ n) => match tint P src, tint P dst with
    | some _, some k => ⟨True, .raw (.int k (k.wrap n)), H⟩
    | _, _ => no
  | _ => no

theorem tint_some {P : Program} {t : TypeId} {k : IntKind} (h : tint P t = some k) : P.underlying t = some (.int k) := by
  unfold tint at h
  split at h
  · cases h; assumption
  · cases h

theorem sConv_sound {P : Program} {ρ : Env} {H : List AB} {src dst : TypeId} {x : SV} {vx : Value} (hx : R ρ x vx) (h : (sConv P H src dst x).pre) (w : World) :
    (sConv P H src dst x).heap = H ∧ ∃ v, (convert src dst vx).run P w = .ok v w ∧ R ρ (sConv P H src dst x).val v := by
  unfold sConv at h ⊢
  split at h
  · rename_i k0 n
    simp only [R] at hx; subst hx
    split at h
    · rename_i k1 k2 h1 h2
      refine ⟨rfl, .int k2 (k2.wrap n), ?_, by simp only [R]⟩
      simp [convert, run_underlying (tint_some h1), run_underlying (tint_some h2), Conv.intToInt]
    · exact h.elim
  · exact h.elim

end Go.Proofs.Ytmnpnnegnlhemaa.Eng
