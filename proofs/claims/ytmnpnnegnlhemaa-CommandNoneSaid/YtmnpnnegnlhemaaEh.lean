/- The engine's operations joined: one function that computes an operation, and that the model agrees. Plain lemmas; no statement of the seat. -/
import Derived.Test.YtmnpnnegnlhemaaEg
import Derived.RangeFuncIn
namespace Go.Proofs.Ytmnpnnegnlhemaa.Eng
open Go

/-! ### Calls -/
def HasBody (P : Program) (f : FuncId) : Prop := ∃ fn, P.funcs[f]? = some fn ∧ (fn.name == "runtime.NumGoroutine") = false ∧ fn.body.isNone = false

/-- A function, called with these symbolic values over this abstract heap, returns this value and leaves this heap. -/
def Ok (P : Program) (E : Addr → Option Value) (f : FuncId) (args : List SV) (H : List AB) (v : SV) (H' : List AB) : Prop :=
  HasBody P f ∧ H.length ≤ H'.length ∧ ∀ (g : G) (ρ : Env) (w : World) (vargs : List Value), g.E = E → Sat g ρ H w → RL ρ args vargs →
    Calls P f vargs.toArray w fun e w' => ∃ ρ' x, e = .returned x ∧ Env.le ρ ρ' ∧ Sat g ρ' H' w' ∧ R ρ' v x

/-- A round, begun by a call of yield. -/
def YOk (P : Program) (E : Addr → Option Value) (l : Nat) (args : List SV) (H : List AB) (v : SV) (H' : List AB) : Prop :=
  H.length ≤ H'.length ∧ ∀ (g : G) (ρ : Env) (w : World) (vargs : List Value), g.E = E → Sat g ρ H w → RL ρ args vargs →
    ∃ fn tmps assign body, (Instr.yield l vargs.toArray).run P w = .ok (.round l fn tmps assign body) w ∧
      RoundIn Fence.wide 0 P l fn tmps assign body w fun e w' => ∃ ρ' x, e = .returned x ∧ Env.le ρ ρ' ∧ Sat g ρ' H' w' ∧ R ρ' v x

/-- What is known of the functions (and rounds) that are called. -/
abbrev Con := Fn → List SV → List AB → Res

def OkF (P : Program) (E : Addr → Option Value) : Fn → List SV → List AB → SV → List AB → Prop
  | .func f, args, H, v, H' => Ok P E f args H v H'
  | .yield l, args, H, v, H' => YOk P E l args H v H'
  | _, _, _, _, _ => False

def Con.Sound (P : Program) (E : Addr → Option Value) (Γ : Con) : Prop := ∀ f args H, (Γ f args H).pre → OkF P E f args H (Γ f args H).val (Γ f args H).heap

/-! ### Small operations -/
def sNil (H : List AB) : SV → Res
  | .ptr i o => ⟨True, .ptr i o, H⟩
  | .pel i sz k j => ⟨True, .pel i sz k j, H⟩
  | .fn f a b => match f with
    | .func _ | .via _ _ _ _ | .methodOf _ _ | .yield _ => ⟨True, .fn f a b, H⟩
    | _ => no
  | .raw (.pointer (some a)) => ⟨True, .raw (.pointer (some a)), H⟩
  | _ => no

def strip : SV → Bool × SV
  | .opt g v => (g, v)
  | s => (true, s)

def sPick (H : List AB) (c a b : SV) : Res :=
  match c, strip a, strip b with
  | .raw (.bool c), (ga, .raw (.bool x)), (gb, .raw (.bool y)) => ⟨(c = true → ga = true) ∧ (c = false → gb = true), .raw (.bool (bif c then x else y)), H⟩
  | .raw (.bool c), (_, .junk), (gb, .raw (.bool y)) => ⟨c = false ∧ gb = true, .raw (.bool y), H⟩
  | .raw (.bool c), (ga, .raw (.bool x)), (_, .junk) => ⟨c = true ∧ ga = true, .raw (.bool x), H⟩
  | _, _, _ => no

def sExtract (H : List AB) (i : Nat) : SV → Res
  | .tup vs => match vs[i]? with
    | some v => ⟨True, v, H⟩
    | none => no
  | _ => no

def sMax (H : List AB) : List SV → Res
  | [.raw (.int k x), .raw (.int _ y)] => ⟨True, .raw (.int k (max x y)), H⟩
  | _ => no
def sMin (H : List AB) : List SV → Res
  | [.raw (.int k x), .raw (.int _ y)] => ⟨True, .raw (.int k (min x y)), H⟩
  | _ => no

/-- An array's element, by value. -/
def sAt (P : Program) (H : List AB) (t : TypeId) (x ix : SV) : Res :=
  match tarr P t, x, ix with
  | some (len, e), .agg cs, .raw (.int _ n) => ⟨tknown P e = true ∧ tagg P e = false ∧ tsize P e = 1 ∧ 0 ≤ n ∧ n < (len : Int) ∧ n.toNat < cs.length, hd1 ((cs.drop n.toNat).take 1), H⟩
  | _, _, _ => no

def sMap (H : List AB) (q : Option Nat) : Res := ⟨holeAt H q, .mapv (idxAt H q), pushAt H (.map []) q⟩

def hasKey (k : IntKind) (n : Int) : List (Value × SV) → Prop × Bool
  | [] => (True, false)
  | (.int k' m, _) :: l => (k' = k ∧ (hasKey k n l).1, decide (n = m) || (hasKey k n l).2)
  | _ => (False, false)

def sInsert (P : Program) (H : List AB) (t : TypeId) (m k x : SV) : Res :=
  match m, k with
  | .mapv i, .raw (.int kd n) => match hget H i with
    | .map es => match P.underlying t with
      | some (.map kt _) => ⟨tint P kt = some kd ∧ (hasKey kd n es).1 ∧ (hasKey kd n es).2 = false, .junk, hset H i (.map (es ++ [(.int kd n, x)]))⟩
      | _ => no
    | _ => no
  | _, _ => no

def findK (n : Int) : List (Value × SV) → Option SV
  | [] => none
  | (.int _ m, s) :: l => match decide (n = m) with
    | true => some s
    | false => findK n l
  | _ :: l => findK n l

def tzv (P : Program) (t : TypeId) : Option Value := (P.info? t).bind (·.zero)

def sLookup (P : Program) (H : List AB) (t : TypeId) (m k : SV) : Res :=
  match m, k with
  | .mapv i, .raw (.int kd n) => match hget H i with
    | .map es => match P.underlying t with
      | some (.map kt et) => match tzv P et with
        | some z => match findK n es with
          | some s => ⟨tint P kt = some kd ∧ (hasKey kd n es).1, .tup [s, .raw (.bool true)], H⟩
          | none => ⟨tint P kt = some kd ∧ (hasKey kd n es).1, .tup [.raw z, .raw (.bool false)], H⟩
        | _ => no
      | _ => no
    | _ => no
  | _, _ => no

/-! ### The operation -/
def sCall (Γ : Con) (H : List AB) (f : SV) (args : List SV) : Res :=
  match f with
  | .raw (.func (.func f) a b) => ⟨(a = #[] ∧ b = #[]) ∧ (Γ (.func f) args H).pre, (Γ (.func f) args H).val, (Γ (.func f) args H).heap⟩
  | .fn (.func f) first cap => Γ (.func f) (first ++ args ++ cap) H
  | _ => no

def sBuiltin (P : Program) (E : Addr → Option Value) (H : List AB) (b : Builtin) (argTypes : List TypeId) (args : List SV) : Res :=
  match b, argTypes, args with
  | .len, [t], [x] => sLen P H t x
  | .append, [t, t'], [x, y] => match decide (t = t') with
    | true => sApp P E H t x y
    | false => no
  | .max, _, xs => sMax H xs
  | .min, _, xs => sMin H xs
  | _, _, _ => no

/-- The operands, taken out of what guards them. -/
def unw (ev : Operand → SV) (x : Operand) : SV := (strip (ev x)).2

def sop (P : Program) (E : Addr → Option Value) (Γ : Con) (q : Option Nat) (H : List AB) (ev : Operand → SV) (o : Op) : Res :=
  match o with
  | .move x | .assign x => ⟨True, unw ev x, H⟩
  | .pick c a b => sPick H (unw ev c) (ev a) (ev b)
  | .alloc t => sAlloc P H q t
  | .box t x => sBox H q t (unw ev x)
  | .build t ps => sBuild P H t (ps.toList.map fun x => (x.1, unw ev x.2))
  | .buildSlice t len ps => sLit P H q t len (ps.toList.map fun x => (x.1, unw ev x.2))
  | .load t a => sLoad P E H t (unw ev a)
  | .store t a x => sStore P H t (unw ev a) (unw ev x)
  | .nilCheck x => sNil H (unw ev x)
  | .binOp op t x y _ => sBin P H op t (unw ev x) (unw ev y)
  | .unOp op _ x => sUn H op (unw ev x)
  | .convert s d x => sConv P H s d (unw ev x)
  | .makeFunc f a b => ⟨True, .fn f (a.toList.map (unw ev)) (b.toList.map (unw ev)), H⟩
  | .makeMap _ none => sMap H q
  | .makeSlice t l c => sMake P H q t (unw ev l) (unw ev c)
  | .slice t x (some lo) none none => sSlice P H t (unw ev x) (unw ev lo)
  | .fieldAddr t x f => sField P H t f (unw ev x)
  | .field t x f => sPart P H t f (unw ev x)
  | .indexAddr t x i => sIndex P H t (unw ev x) (unw ev i)
  | .index t x i => sAt P H t (unw ev x) (unw ev i)
  | .lookup t m k true => sLookup P H t (unw ev m) (unw ev k)
  | .insert t m k x => sInsert P H t (unw ev m) (unw ev k) (unw ev x)
  | .extract t i => sExtract H i (unw ev t)
  | .call c => match c.callee with
    | .builtin b => sBuiltin P E H b c.argTypes.toList (c.args.toList.map (unw ev))
    | .value f => sCall Γ H (unw ev f) (c.args.toList.map (unw ev))
    | _ => no
  | _ => no

/-- The operands that must be there. -/
def needs (ev : Operand → SV) (gd : Bool) : List Operand → Prop
  | [] => True
  | x :: l => (match ev x with | .opt g _ => (gd = true → g = true) | _ => True) ∧ needs ev gd l

def opNeeds : Op → List Operand
  | .pick c _ _ => [c]
  | .move x | .assign x | .box _ x | .load _ x | .nilCheck x | .unOp _ _ x | .convert _ _ x | .fieldAddr _ x _ | .field _ x _ | .extract x _ => [x]
  | .store _ x y | .binOp _ _ x y _ | .makeSlice _ x y | .indexAddr _ x y | .index _ x y | .lookup _ x y _ => [x, y]
  | .slice _ x (some lo) _ _ => [x, lo]
  | .insert _ x y z => [x, y, z]
  | .build _ ps | .buildSlice _ _ ps => ps.toList.map (·.2)
  | .makeFunc _ f c => f.toList ++ c.toList
  | .call c => match c.callee with
    | .value f => f :: c.args.toList
    | _ => c.args.toList
  | _ => []

theorem needs_spec {ev : Operand → SV} {gd : Bool} (hg : gd = true) : ∀ {l : List Operand}, needs ev gd l → ∀ x ∈ l, ∀ {ρ : Env} {v : Value}, R ρ (ev x) v → R ρ (unw ev x) v
  | [], _, x, hx, _, _, _ => by simp at hx
  | y :: l, h, x, hx, ρ, v, hr => by
    simp only [needs] at h
    rcases List.mem_cons.1 hx with rfl | hx
    · unfold unw
      cases he : ev x with
      | opt g s =>
        rw [he] at h hr
        simp only [R] at hr
        exact hr.1 (h.1 hg)
      | _ => rw [he] at hr; exact hr
    · exact needs_spec hg h.2 x hx hr

end Go.Proofs.Ytmnpnnegnlhemaa.Eng
