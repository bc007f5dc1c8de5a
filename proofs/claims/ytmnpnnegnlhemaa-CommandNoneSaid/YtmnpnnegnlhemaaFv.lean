/- Cuts for drawn regions: not by rfl, so that the kernel holds short steps against each other. -/
import Derived.Test.YtmnpnnegnlhemaaFt
namespace Go.Proofs.Ytmnpnnegnlhemaa.Eng
open Go
section
variable (P : Program) (E : Addr → Option Value) (Γ : Con) (ops : List Oper) (b : Nat) (τ0 : List SV) (H0 : List AB)
theorem drawSt_b (plan : Plan) (τ : List SV) (H : List AB) : drawSt P E Γ plan ops τ H = ⟨preL P E Γ ops H.length τ (H ++ holes ops) ops.length ∧ chkL P E Γ ops H.length τ (H ++ holes ops) plan,
    (pref P E Γ ops H.length τ (H ++ holes ops) ops.length).1, (pref P E Γ ops H.length τ (H ++ holes ops) ops.length).2⟩ := of_eq_true (eq_self _)
theorem preL_0 : preL P E Γ ops b τ0 H0 0 = True := of_eq_true (eq_self _)
theorem preL_b (i : Nat) : preL P E Γ ops b τ0 H0 (i + 1) = (preL P E Γ ops b τ0 H0 i ∧ (stp P E Γ ops b i (pref P E Γ ops b τ0 H0 i).1 (pref P E Γ ops b τ0 H0 i).2).pre) := of_eq_true (eq_self _)
theorem hpOf_0 : hpOf P E Γ ops b τ0 H0 [] = H0 := of_eq_true (eq_self _)
theorem hpOf_b (i : Nat) (T : List Nat) : hpOf P E Γ ops b τ0 H0 (i :: T) = (stp P E Γ ops b i (pref P E Γ ops b τ0 H0 i).1 (hpOf P E Γ ops b τ0 H0 T)).heap := of_eq_true (eq_self _)
theorem chk_b (T : List Nat) (i : Nat) : chk P E Γ ops b τ0 H0 T i = chk2 (effAt ops i) (stp P E Γ ops b i (pref P E Γ ops b τ0 H0 i).1 (pref P E Γ ops b τ0 H0 i).2).val (hpOf P E Γ ops b τ0 H0 (insE (effD ops ops.length) T i))
    (stp P E Γ ops b i (pref P E Γ ops b τ0 H0 i).1 (hpOf P E Γ ops b τ0 H0 T)) := of_eq_true (eq_self _)
theorem chkL_0 : chkL P E Γ ops b τ0 H0 [] = True := of_eq_true (eq_self _)
theorem chkL_b (T : List Nat) (i : Nat) (r : List (List Nat × Nat)) : chkL P E Γ ops b τ0 H0 ((T, i) :: r) = (chk P E Γ ops b τ0 H0 T i ∧ chkL P E Γ ops b τ0 H0 r) := of_eq_true (eq_self _)
end
theorem selC_t (p q : List SV → List AB → Prop) (τ : List SV) (H : List AB) : selC p q (.raw (.bool true)) τ H = p τ H := of_eq_true (eq_self _)
theorem selC_f (p q : List SV → List AB → Prop) (τ : List SV) (H : List AB) : selC p q (.raw (.bool false)) τ H = q τ H := of_eq_true (eq_self _)
/-! A drawn region in two passes: simp only [↓eng_draw, (the list without drawSt)] ends at drawC (a marker), its list and its heap reduced; simp only [drawC_regC, (the list)] goes on from there. In one pass the kernel hangs. -/
def drawC (q : List SV → List AB → Prop) (s : St) : Prop := regC q s
theorem drawC_regC (q : List SV → List AB → Prop) (s : St) : drawC q s = regC q s := of_eq_true (eq_self _)
theorem drawC_congr {q : List SV → List AB → Prop} {s s2 : St} (h : s = s2) : drawC q s = drawC q s2 := by rw [h]
theorem eng_draw (P : Program) (E : Addr → Option Value) (Γ : Con) (pl : Nat → Plan) (N n : Nat) (F : Fin) (id : Nat) (ops : Array Oper) (k : List Kt) (τ : List SV) (H : List AB) :
    eng P E Γ pl N (n + 1) F (.run (.region id ops true) k) τ H = drawC (eng P E Γ pl N n F (.pop .normal k)) (drawSt P E Γ (pl id) ops.toList τ H) := of_eq_true (eq_self _)
attribute [congr] drawC_congr
/-- As drawC, but what follows is not seen as a function (simp visits q where the congr law changes nothing). -/
def drawE (P : Program) (E : Addr → Option Value) (Γ : Con) (pl : Nat → Plan) (N n : Nat) (F : Fin) (k : List Kt) (s : St) : Prop := regC (eng P E Γ pl N n F (.pop .normal k)) s
theorem engE (P : Program) (E : Addr → Option Value) (Γ : Con) (pl : Nat → Plan) (N n : Nat) (F : Fin) (id : Nat) (ops : Array Oper) (k : List Kt) (τ : List SV) (H : List AB) :
    eng P E Γ pl N (n + 1) F (.run (.region id ops true) k) τ H = drawE P E Γ pl N n F k (drawSt P E Γ (pl id) ops.toList τ H) := of_eq_true (eq_self _)
theorem drawE_mk (P : Program) (E : Addr → Option Value) (Γ : Con) (pl : Nat → Plan) (N n : Nat) (F : Fin) (k : List Kt) (p : Prop) (τ : List SV) (H : List AB) :
    drawE P E Γ pl N n F k ⟨p, τ, H⟩ = (p ∧ eng P E Γ pl N n F (.pop .normal k) τ H) := of_eq_true (eq_self _)
end Go.Proofs.Ytmnpnnegnlhemaa.Eng
