/- The opening example of the command laws is true, by the engine. -/
import Derived.Laws.StructEq
import Derived.ChangeKeysEq
import Derived.Test.YtmnpnnegnlhemaaGb
import Derived.Test.YtmnpnnegnlhemaaProg
namespace Go.Proofs.Ytmnpnnegnlhemaa.Eng
open Go
/-! Cuts: not by rfl, so that the kernel holds short steps against each other; contB lies above srunA, so that the kernel unfolds it first. -/
def hiN : Nat := (fun (_ : Program → (Addr → Option Value) → Con → List Oper → List Oper → Prop → List SV → List AB → St) => 0) srunA
def contB (k : Prop → List SV → List AB → St) (acc : Prop) (d : Option Tmp) (τ : List SV) (r : Res) : St := (fun (_ : Nat) => Res.casesOn (motive := fun _ => St) r (fun p v h => k (acc ∧ p) (tput τ d v) h)) hiN
theorem contB_mk (k : Prop → List SV → List AB → St) (acc : Prop) (d : Option Tmp) (τ : List SV) (p : Prop) (v : SV) (h : List AB) : contB k acc d τ ⟨p, v, h⟩ = k (acc ∧ p) (tput τ d v) h := rfl
theorem srunA_nil (P : Program) (E : Addr → Option Value) (Γ : Con) (ops : List Oper) (acc : Prop) (τ : List SV) (H : List AB) : srunA P E Γ ops [] acc τ H = ⟨acc, τ, H⟩ := of_eq_true (eq_self _)
theorem srunA_b (P : Program) (E : Addr → Option Value) (Γ : Con) (ops : List Oper) (o : Oper) (r : List Oper) (acc : Prop) (τ : List SV) (H : List AB) : srunA P E Γ ops (o :: r) acc τ H = contB (srunA P E Γ ops r) acc o.dst τ (stepR P E Γ ops none o τ H) := of_eq_true (eq_self _)
def hiY : Nat := (fun (_ : Program → (Addr → Option Value) → Con → List Oper → List Oper → Prop → List SV → List AB → St) => 0) srunY
def contY (k : Prop → List SV → List AB → St) (acc : Prop) (d : Option Tmp) (τ : List SV) (r : Res) : St := (fun (_ : Nat) => Res.casesOn (motive := fun _ => St) r (fun p v h => k (acc ∧ p) (tput τ d v) h)) hiY
theorem contY_mk (k : Prop → List SV → List AB → St) (acc : Prop) (d : Option Tmp) (τ : List SV) (p : Prop) (v : SV) (h : List AB) : contY k acc d τ ⟨p, v, h⟩ = k (acc ∧ p) (tput τ d v) h := rfl
theorem srunY_nil (P : Program) (E : Addr → Option Value) (Γ : Con) (ops : List Oper) (acc : Prop) (τ : List SV) (H : List AB) : srunY P E Γ ops [] acc τ H = ⟨acc, τ, H⟩ := of_eq_true (eq_self _)
theorem srunY_b (P : Program) (E : Addr → Option Value) (Γ : Con) (ops : List Oper) (o : Oper) (r : List Oper) (acc : Prop) (τ : List SV) (H : List AB) : srunY P E Γ ops (o :: r) acc τ H = contY (srunY P E Γ ops r) acc o.dst τ (stepY P E Γ ops o τ H) := of_eq_true (eq_self _)
def hiP : Nat := (fun (_ : Program → (Addr → Option Value) → Con → List Oper → Nat → List SV → List AB → Nat → List SV × List AB) => 0) pref
def nxtB (d : Option Tmp) (τ : List SV) (r : Res) : List SV × List AB := (fun (_ : Nat) => Res.casesOn (motive := fun _ => List SV × List AB) r (fun _ v h => (tput τ d v, h))) hiP
theorem nxtB_mk (d : Option Tmp) (τ : List SV) (p : Prop) (v : SV) (h : List AB) : nxtB d τ ⟨p, v, h⟩ = (tput τ d v, h) := rfl
theorem pref_0 (P : Program) (E : Addr → Option Value) (Γ : Con) (ops : List Oper) (b : Nat) (τ0 : List SV) (H0 : List AB) : pref P E Γ ops b τ0 H0 0 = (τ0, H0) := of_eq_true (eq_self _)
theorem pref_b (P : Program) (E : Addr → Option Value) (Γ : Con) (ops : List Oper) (b : Nat) (τ0 : List SV) (H0 : List AB) (i : Nat) : pref P E Γ ops b τ0 H0 (i + 1) = nxtB (gdst (onth ops i)) (pref P E Γ ops b τ0 H0 i).1 (stp P E Γ ops b i (pref P E Γ ops b τ0 H0 i).1 (pref P E Γ ops b τ0 H0 i).2) := of_eq_true (eq_self _)
theorem regC_mk (q : List SV → List AB → Prop) (p : Prop) (τ : List SV) (H : List AB) : regC q ⟨p, τ, H⟩ = (p ∧ q τ H) := rfl
theorem chk2_mt (v : SV) (h : List AB) (p : Prop) (v' : SV) (h' : List AB) : chk2 true v h ⟨p, v', h'⟩ = (p ∧ v' = v ∧ h' = h) := rfl
theorem chk2_mf (v : SV) (h : List AB) (p : Prop) (v' : SV) (h' : List AB) : chk2 false v h ⟨p, v', h'⟩ = (p ∧ v' = v ∧ True) := rfl
theorem r0_mk (n p : Prop) (v : SV) (h : List AB) : r0 n ⟨p, v, h⟩ = ⟨n ∧ p, v, h⟩ := rfl
theorem r2_mk (n : Prop) (g : Bool) (H : List AB) (p : Prop) (v : SV) (h : List AB) : r2 n g H ⟨p, v, h⟩ = ⟨n ∧ (g = true → p), .opt g v, if g = true then h else H⟩ := rfl
theorem r1_mk (P : Program) (E : Addr → Option Value) (Γ : Con) (q : Option Nat) (o : Oper) (τ : List SV) (H : List AB) (p : Prop) (g : Bool) : r1 P E Γ q o τ H (p, g) = r2 (p ∧ needs (sev τ) g (opNeeds o.op)) g H (sop P E Γ q H (sev τ) o.op) := rfl
theorem mixed : Try.prog.follows .mixedOrders = true := by kernel_rfl
theorem tk3 : tknown Try.prog 3 = true := by kernel_rfl
theorem ts3 : tsize Try.prog 3 = 1 := by kernel_rfl
theorem ta3 : tagg Try.prog 3 = false := by kernel_rfl
theorem tb3 : tbytes? Try.prog 3 = 8 := by kernel_rfl
theorem tz3 : tzero Try.prog 3 = some [.int .i64 0] := by kernel_rfl
theorem ti3 : tint Try.prog 3 = some .i64 := by kernel_rfl
theorem tk4 : tknown Try.prog 4 = true := by kernel_rfl
theorem ts4 : tsize Try.prog 4 = 1 := by kernel_rfl
theorem ta4 : tagg Try.prog 4 = false := by kernel_rfl
theorem tb4 : tbytes? Try.prog 4 = 1 := by kernel_rfl
theorem tz4 : tzero Try.prog 4 = some [.bool false] := by kernel_rfl
theorem tu4 : Try.prog.underlying 4 = some .bool := by kernel_rfl
theorem tk5 : tknown Try.prog 5 = true := by kernel_rfl
theorem ts5 : tsize Try.prog 5 = 1 := by kernel_rfl
theorem ta5 : tagg Try.prog 5 = false := by kernel_rfl
theorem tb5 : tbytes? Try.prog 5 = 1 := by kernel_rfl
theorem tz5 : tzero Try.prog 5 = some [.int .u8 0] := by kernel_rfl
theorem ti5 : tint Try.prog 5 = some .u8 := by kernel_rfl
theorem tk23 : tknown Try.prog 23 = true := by kernel_rfl
theorem ts23 : tsize Try.prog 23 = 3 := by kernel_rfl
theorem ta23 : tagg Try.prog 23 = true := by kernel_rfl
theorem tb23 : tbytes? Try.prog 23 = 24 := by kernel_rfl
theorem tz23 : tzero Try.prog 23 = some [.int .i64 0, .int .i64 0, .int .i64 0] := by kernel_rfl
theorem tf23_0 : tfield Try.prog 23 0 = some (0, 1, false) := by kernel_rfl
theorem tf23_1 : tfield Try.prog 23 1 = some (1, 1, false) := by kernel_rfl
theorem tf23_2 : tfield Try.prog 23 2 = some (2, 1, false) := by kernel_rfl
theorem tpl23 : tplaces Try.prog 23 = some [(0, 1), (1, 1), (2, 1)] := by kernel_rfl
theorem tk24 : tknown Try.prog 24 = true := by kernel_rfl
theorem ts24 : tsize Try.prog 24 = 1 := by kernel_rfl
theorem ta24 : tagg Try.prog 24 = false := by kernel_rfl
theorem tb24 : tbytes? Try.prog 24 = 8 := by kernel_rfl
theorem tz24 : tzero Try.prog 24 = some [.int .i64 0] := by kernel_rfl
theorem ti24 : tint Try.prog 24 = some .i64 := by kernel_rfl
theorem tk27 : tknown Try.prog 27 = true := by kernel_rfl
theorem ts27 : tsize Try.prog 27 = 1 := by kernel_rfl
theorem ta27 : tagg Try.prog 27 = false := by kernel_rfl
theorem tb27 : tbytes? Try.prog 27 = 8 := by kernel_rfl
theorem tz27 : tzero Try.prog 27 = some [.pointer none] := by kernel_rfl
theorem tp27 : tptr Try.prog 27 = true := by kernel_rfl
theorem tk30 : tknown Try.prog 30 = true := by kernel_rfl
theorem ts30 : tsize Try.prog 30 = 1 := by kernel_rfl
theorem ta30 : tagg Try.prog 30 = false := by kernel_rfl
theorem tb30 : tbytes? Try.prog 30 = 8 := by kernel_rfl
theorem tz30 : tzero Try.prog 30 = some [.pointer none] := by kernel_rfl
theorem tp30 : tptr Try.prog 30 = true := by kernel_rfl
theorem tk36 : tknown Try.prog 36 = true := by kernel_rfl
theorem ts36 : tsize Try.prog 36 = 1 := by kernel_rfl
theorem ta36 : tagg Try.prog 36 = false := by kernel_rfl
theorem tb36 : tbytes? Try.prog 36 = 24 := by kernel_rfl
theorem tz36 : tzero Try.prog 36 = some [.slice none 0 0] := by kernel_rfl
theorem te36 : telem Try.prog 36 = some 43 := by kernel_rfl
theorem tk37 : tknown Try.prog 37 = true := by kernel_rfl
theorem ts37 : tsize Try.prog 37 = 1 := by kernel_rfl
theorem ta37 : tagg Try.prog 37 = false := by kernel_rfl
theorem tb37 : tbytes? Try.prog 37 = 24 := by kernel_rfl
theorem tz37 : tzero Try.prog 37 = some [.slice none 0 0] := by kernel_rfl
theorem te37 : telem Try.prog 37 = some 102 := by kernel_rfl
theorem tk39 : tknown Try.prog 39 = true := by kernel_rfl
theorem ts39 : tsize Try.prog 39 = 6 := by kernel_rfl
theorem ta39 : tagg Try.prog 39 = true := by kernel_rfl
theorem tb39 : tbytes? Try.prog 39 = 64 := by kernel_rfl
theorem tz39 : tzero Try.prog 39 = some [.int .i64 0, .int .i64 0, .int .i64 0, .int .i64 0, .int .i64 0, .slice none 0 0] := by kernel_rfl
theorem tf39_0 : tfield Try.prog 39 0 = some (0, 1, false) := by kernel_rfl
theorem tf39_1 : tfield Try.prog 39 1 = some (1, 1, false) := by kernel_rfl
theorem tf39_2 : tfield Try.prog 39 2 = some (2, 1, false) := by kernel_rfl
theorem tf39_3 : tfield Try.prog 39 3 = some (3, 1, false) := by kernel_rfl
theorem tf39_4 : tfield Try.prog 39 4 = some (4, 1, false) := by kernel_rfl
theorem tf39_5 : tfield Try.prog 39 5 = some (5, 1, false) := by kernel_rfl
theorem tpl39 : tplaces Try.prog 39 = some [(0, 1), (1, 1), (2, 1), (3, 1), (4, 1), (5, 1)] := by kernel_rfl
theorem tk41 : tknown Try.prog 41 = true := by kernel_rfl
theorem ts41 : tsize Try.prog 41 = 3 := by kernel_rfl
theorem ta41 : tagg Try.prog 41 = true := by kernel_rfl
theorem tb41 : tbytes? Try.prog 41 = 24 := by kernel_rfl
theorem tz41 : tzero Try.prog 41 = some [.int .i64 0, .int .i64 0, .int .i64 0] := by kernel_rfl
theorem tf41_0 : tfield Try.prog 41 0 = some (0, 1, false) := by kernel_rfl
theorem tf41_1 : tfield Try.prog 41 1 = some (1, 1, false) := by kernel_rfl
theorem tf41_2 : tfield Try.prog 41 2 = some (2, 1, false) := by kernel_rfl
theorem tpl41 : tplaces Try.prog 41 = some [(0, 1), (1, 1), (2, 1)] := by kernel_rfl
theorem tk43 : tknown Try.prog 43 = true := by kernel_rfl
theorem ts43 : tsize Try.prog 43 = 5 := by kernel_rfl
theorem ta43 : tagg Try.prog 43 = true := by kernel_rfl
theorem tb43 : tbytes? Try.prog 43 = 40 := by kernel_rfl
theorem tz43 : tzero Try.prog 43 = some [.int .i64 0, .int .i64 0, .int .i64 0, .int .i64 0, .int .i64 0] := by kernel_rfl
theorem tf43_0 : tfield Try.prog 43 0 = some (0, 1, false) := by kernel_rfl
theorem tf43_1 : tfield Try.prog 43 1 = some (1, 1, false) := by kernel_rfl
theorem tf43_2 : tfield Try.prog 43 2 = some (2, 3, true) := by kernel_rfl
theorem tpl43 : tplaces Try.prog 43 = some [(0, 1), (1, 1), (2, 3)] := by kernel_rfl
theorem tk57 : tknown Try.prog 57 = true := by kernel_rfl
theorem ts57 : tsize Try.prog 57 = 9 := by kernel_rfl
theorem ta57 : tagg Try.prog 57 = true := by kernel_rfl
theorem tb57 : tbytes? Try.prog 57 = 72 := by kernel_rfl
theorem tz57 : tzero Try.prog 57 = some [.int .i64 0, .int .i64 0, .int .i64 0, .int .i64 0, .int .i64 0, .int .i64 0, .int .i64 0, .int .i64 0, .int .i64 0] := by kernel_rfl
theorem tr57 : tarr Try.prog 57 = some (9, 3) := by kernel_rfl
theorem tk59 : tknown Try.prog 59 = true := by kernel_rfl
theorem ts59 : tsize Try.prog 59 = 17 := by kernel_rfl
theorem ta59 : tagg Try.prog 59 = true := by kernel_rfl
theorem tb59 : tbytes? Try.prog 59 = 136 := by kernel_rfl
theorem tz59 : tzero Try.prog 59 = some [.int .i64 0, .int .i64 0, .int .i64 0, .int .i64 0, .int .i64 0, .int .i64 0, .int .i64 0, .int .i64 0, .int .i64 0, .int .i64 0, .int .i64 0, .int .i64 0, .int .i64 0, .int .i64 0, .int .i64 0, .int .i64 0, .int .i64 0] := by kernel_rfl
theorem tf59_0 : tfield Try.prog 59 0 = some (0, 1, false) := by kernel_rfl
theorem tf59_1 : tfield Try.prog 59 1 = some (1, 1, false) := by kernel_rfl
theorem tf59_2 : tfield Try.prog 59 2 = some (2, 1, false) := by kernel_rfl
theorem tf59_3 : tfield Try.prog 59 3 = some (3, 1, false) := by kernel_rfl
theorem tf59_4 : tfield Try.prog 59 4 = some (4, 1, false) := by kernel_rfl
theorem tf59_5 : tfield Try.prog 59 5 = some (5, 9, true) := by kernel_rfl
theorem tf59_6 : tfield Try.prog 59 6 = some (14, 1, false) := by kernel_rfl
theorem tf59_7 : tfield Try.prog 59 7 = some (15, 1, false) := by kernel_rfl
theorem tf59_8 : tfield Try.prog 59 8 = some (16, 1, false) := by kernel_rfl
theorem tpl59 : tplaces Try.prog 59 = some [(0, 1), (1, 1), (2, 1), (3, 1), (4, 1), (5, 9), (14, 1), (15, 1), (16, 1)] := by kernel_rfl
theorem tk69 : tknown Try.prog 69 = true := by kernel_rfl
theorem ts69 : tsize Try.prog 69 = 3 := by kernel_rfl
theorem ta69 : tagg Try.prog 69 = true := by kernel_rfl
theorem tb69 : tbytes? Try.prog 69 = 3 := by kernel_rfl
theorem tz69 : tzero Try.prog 69 = some [.int .u8 0, .int .u8 0, .int .u8 0] := by kernel_rfl
theorem tr69 : tarr Try.prog 69 = some (3, 5) := by kernel_rfl
theorem tk70 : tknown Try.prog 70 = true := by kernel_rfl
theorem ts70 : tsize Try.prog 70 = 1 := by kernel_rfl
theorem ta70 : tagg Try.prog 70 = false := by kernel_rfl
theorem tb70 : tbytes? Try.prog 70 = 24 := by kernel_rfl
theorem tz70 : tzero Try.prog 70 = some [.slice none 0 0] := by kernel_rfl
theorem te70 : telem Try.prog 70 = some 80 := by kernel_rfl
theorem tk71 : tknown Try.prog 71 = true := by kernel_rfl
theorem ts71 : tsize Try.prog 71 = 1 := by kernel_rfl
theorem ta71 : tagg Try.prog 71 = false := by kernel_rfl
theorem tb71 : tbytes? Try.prog 71 = 24 := by kernel_rfl
theorem tz71 : tzero Try.prog 71 = some [.slice none 0 0] := by kernel_rfl
theorem te71 : telem Try.prog 71 = some 30 := by kernel_rfl
theorem tk72 : tknown Try.prog 72 = true := by kernel_rfl
theorem ts72 : tsize Try.prog 72 = 1 := by kernel_rfl
theorem ta72 : tagg Try.prog 72 = false := by kernel_rfl
theorem tb72 : tbytes? Try.prog 72 = 24 := by kernel_rfl
theorem tz72 : tzero Try.prog 72 = some [.slice none 0 0] := by kernel_rfl
theorem te72 : telem Try.prog 72 = some 41 := by kernel_rfl
theorem tk73 : tknown Try.prog 73 = true := by kernel_rfl
theorem ts73 : tsize Try.prog 73 = 1 := by kernel_rfl
theorem ta73 : tagg Try.prog 73 = false := by kernel_rfl
theorem tb73 : tbytes? Try.prog 73 = 24 := by kernel_rfl
theorem tz73 : tzero Try.prog 73 = some [.slice none 0 0] := by kernel_rfl
theorem te73 : telem Try.prog 73 = some 3 := by kernel_rfl
theorem tk75 : tknown Try.prog 75 = true := by kernel_rfl
theorem ts75 : tsize Try.prog 75 = 6 := by kernel_rfl
theorem ta75 : tagg Try.prog 75 = true := by kernel_rfl
theorem tb75 : tbytes? Try.prog 75 = 112 := by kernel_rfl
theorem tz75 : tzero Try.prog 75 = some [.pointer none, .slice none 0 0, .slice none 0 0, .slice none 0 0, .slice none 0 0, .int .i64 0] := by kernel_rfl
theorem tf75_0 : tfield Try.prog 75 0 = some (0, 1, false) := by kernel_rfl
theorem tf75_1 : tfield Try.prog 75 1 = some (1, 1, false) := by kernel_rfl
theorem tf75_2 : tfield Try.prog 75 2 = some (2, 1, false) := by kernel_rfl
theorem tf75_3 : tfield Try.prog 75 3 = some (3, 1, false) := by kernel_rfl
theorem tf75_4 : tfield Try.prog 75 4 = some (4, 1, false) := by kernel_rfl
theorem tf75_5 : tfield Try.prog 75 5 = some (5, 1, false) := by kernel_rfl
theorem tpl75 : tplaces Try.prog 75 = some [(0, 1), (1, 1), (2, 1), (3, 1), (4, 1), (5, 1)] := by kernel_rfl
theorem tk80 : tknown Try.prog 80 = true := by kernel_rfl
theorem ts80 : tsize Try.prog 80 = 2 := by kernel_rfl
theorem ta80 : tagg Try.prog 80 = true := by kernel_rfl
theorem tb80 : tbytes? Try.prog 80 = 2 := by kernel_rfl
theorem tz80 : tzero Try.prog 80 = some [.int .u8 0, .int .u8 0] := by kernel_rfl
theorem tf80_0 : tfield Try.prog 80 0 = some (0, 1, false) := by kernel_rfl
theorem tf80_1 : tfield Try.prog 80 1 = some (1, 1, false) := by kernel_rfl
theorem tpl80 : tplaces Try.prog 80 = some [(0, 1), (1, 1)] := by kernel_rfl
theorem tk85 : tknown Try.prog 85 = true := by kernel_rfl
theorem ts85 : tsize Try.prog 85 = 1 := by kernel_rfl
theorem ta85 : tagg Try.prog 85 = true := by kernel_rfl
theorem tb85 : tbytes? Try.prog 85 = 8 := by kernel_rfl
theorem tz85 : tzero Try.prog 85 = some [.int .i64 0] := by kernel_rfl
theorem tf85_0 : tfield Try.prog 85 0 = some (0, 1, false) := by kernel_rfl
theorem tpl85 : tplaces Try.prog 85 = some [(0, 1)] := by kernel_rfl
theorem tk87 : tknown Try.prog 87 = true := by kernel_rfl
theorem ts87 : tsize Try.prog 87 = 3 := by kernel_rfl
theorem ta87 : tagg Try.prog 87 = true := by kernel_rfl
theorem tb87 : tbytes? Try.prog 87 = 24 := by kernel_rfl
theorem tz87 : tzero Try.prog 87 = some [.int .i64 0, .int .i64 0, .int .i64 0] := by kernel_rfl
theorem tf87_0 : tfield Try.prog 87 0 = some (0, 1, false) := by kernel_rfl
theorem tf87_1 : tfield Try.prog 87 1 = some (1, 1, false) := by kernel_rfl
theorem tf87_2 : tfield Try.prog 87 2 = some (2, 1, false) := by kernel_rfl
theorem tpl87 : tplaces Try.prog 87 = some [(0, 1), (1, 1), (2, 1)] := by kernel_rfl
theorem tk88 : tknown Try.prog 88 = true := by kernel_rfl
theorem ts88 : tsize Try.prog 88 = 1 := by kernel_rfl
theorem ta88 : tagg Try.prog 88 = false := by kernel_rfl
theorem tb88 : tbytes? Try.prog 88 = 8 := by kernel_rfl
theorem tz88 : tzero Try.prog 88 = some [.map none] := by kernel_rfl
theorem tm88 : Try.prog.underlying 88 = some (.map 3 99) := by kernel_rfl
theorem tk90 : tknown Try.prog 90 = true := by kernel_rfl
theorem ts90 : tsize Try.prog 90 = 9 := by kernel_rfl
theorem ta90 : tagg Try.prog 90 = true := by kernel_rfl
theorem tb90 : tbytes? Try.prog 90 = 88 := by kernel_rfl
theorem tz90 : tzero Try.prog 90 = some [.int .i64 0, .int .i64 0, .int .i64 0, .int .i64 0, .bool false, .int .i64 0, .int .i64 0, .slice none 0 0, .map none] := by kernel_rfl
theorem tf90_0 : tfield Try.prog 90 0 = some (0, 1, true) := by kernel_rfl
theorem tf90_1 : tfield Try.prog 90 1 = some (1, 3, true) := by kernel_rfl
theorem tf90_2 : tfield Try.prog 90 2 = some (4, 1, false) := by kernel_rfl
theorem tf90_3 : tfield Try.prog 90 3 = some (5, 1, false) := by kernel_rfl
theorem tf90_4 : tfield Try.prog 90 4 = some (6, 1, false) := by kernel_rfl
theorem tf90_5 : tfield Try.prog 90 5 = some (7, 1, false) := by kernel_rfl
theorem tf90_6 : tfield Try.prog 90 6 = some (8, 1, false) := by kernel_rfl
theorem tpl90 : tplaces Try.prog 90 = some [(0, 1), (1, 3), (4, 1), (5, 1), (6, 1), (7, 1), (8, 1)] := by kernel_rfl
theorem tk91 : tknown Try.prog 91 = true := by kernel_rfl
theorem ts91 : tsize Try.prog 91 = 1 := by kernel_rfl
theorem ta91 : tagg Try.prog 91 = false := by kernel_rfl
theorem tb91 : tbytes? Try.prog 91 = 24 := by kernel_rfl
theorem tz91 : tzero Try.prog 91 = some [.slice none 0 0] := by kernel_rfl
theorem te91 : telem Try.prog 91 = some 27 := by kernel_rfl
theorem tk92 : tknown Try.prog 92 = true := by kernel_rfl
theorem ts92 : tsize Try.prog 92 = 1 := by kernel_rfl
theorem ta92 : tagg Try.prog 92 = false := by kernel_rfl
theorem tb92 : tbytes? Try.prog 92 = 24 := by kernel_rfl
theorem tz92 : tzero Try.prog 92 = some [.slice none 0 0] := by kernel_rfl
theorem te92 : telem Try.prog 92 = some 110 := by kernel_rfl
theorem tk94 : tknown Try.prog 94 = true := by kernel_rfl
theorem ts94 : tsize Try.prog 94 = 1 := by kernel_rfl
theorem ta94 : tagg Try.prog 94 = true := by kernel_rfl
theorem tb94 : tbytes? Try.prog 94 = 24 := by kernel_rfl
theorem tz94 : tzero Try.prog 94 = some [.slice none 0 0] := by kernel_rfl
theorem tf94_0 : tfield Try.prog 94 0 = some (0, 1, false) := by kernel_rfl
theorem tpl94 : tplaces Try.prog 94 = some [(0, 1)] := by kernel_rfl
theorem tk96 : tknown Try.prog 96 = true := by kernel_rfl
theorem ts96 : tsize Try.prog 96 = 7 := by kernel_rfl
theorem ta96 : tagg Try.prog 96 = true := by kernel_rfl
theorem tb96 : tbytes? Try.prog 96 = 72 := by kernel_rfl
theorem tz96 : tzero Try.prog 96 = some [.int .i64 0, .bool false, .int .i64 0, .int .i64 0, .int .i64 0, .int .i64 0, .slice none 0 0] := by kernel_rfl
theorem tf96_0 : tfield Try.prog 96 0 = some (0, 1, true) := by kernel_rfl
theorem tf96_1 : tfield Try.prog 96 1 = some (1, 1, false) := by kernel_rfl
theorem tf96_2 : tfield Try.prog 96 2 = some (2, 1, false) := by kernel_rfl
theorem tf96_3 : tfield Try.prog 96 3 = some (3, 1, false) := by kernel_rfl
theorem tf96_4 : tfield Try.prog 96 4 = some (4, 1, false) := by kernel_rfl
theorem tf96_5 : tfield Try.prog 96 5 = some (5, 1, false) := by kernel_rfl
theorem tf96_6 : tfield Try.prog 96 6 = some (6, 1, true) := by kernel_rfl
theorem tpl96 : tplaces Try.prog 96 = some [(0, 1), (1, 1), (2, 1), (3, 1), (4, 1), (5, 1), (6, 1)] := by kernel_rfl
theorem tk99 : tknown Try.prog 99 = true := by kernel_rfl
theorem ts99 : tsize Try.prog 99 = 1 := by kernel_rfl
theorem ta99 : tagg Try.prog 99 = false := by kernel_rfl
theorem tb99 : tbytes? Try.prog 99 = 8 := by kernel_rfl
theorem tz99 : tzero Try.prog 99 = some [.nilFunc] := by kernel_rfl
theorem tv99 : tzv Try.prog 99 = some .nilFunc := by kernel_rfl
theorem tk102 : tknown Try.prog 102 = true := by kernel_rfl
theorem ts102 : tsize Try.prog 102 = 2 := by kernel_rfl
theorem ta102 : tagg Try.prog 102 = true := by kernel_rfl
theorem tb102 : tbytes? Try.prog 102 = 16 := by kernel_rfl
theorem tz102 : tzero Try.prog 102 = some [.int .i64 0, .int .i64 0] := by kernel_rfl
theorem tf102_0 : tfield Try.prog 102 0 = some (0, 1, false) := by kernel_rfl
theorem tf102_1 : tfield Try.prog 102 1 = some (1, 1, false) := by kernel_rfl
theorem tpl102 : tplaces Try.prog 102 = some [(0, 1), (1, 1)] := by kernel_rfl
theorem tk108 : tknown Try.prog 108 = true := by kernel_rfl
theorem ts108 : tsize Try.prog 108 = 1 := by kernel_rfl
theorem ta108 : tagg Try.prog 108 = false := by kernel_rfl
theorem tb108 : tbytes? Try.prog 108 = 8 := by kernel_rfl
theorem tz108 : tzero Try.prog 108 = some [.pointer none] := by kernel_rfl
theorem tp108 : tptr Try.prog 108 = true := by kernel_rfl
theorem tk110 : tknown Try.prog 110 = true := by kernel_rfl
theorem ts110 : tsize Try.prog 110 = 2 := by kernel_rfl
theorem ta110 : tagg Try.prog 110 = true := by kernel_rfl
theorem tb110 : tbytes? Try.prog 110 = 16 := by kernel_rfl
theorem tz110 : tzero Try.prog 110 = some [.int .i64 0, .int .i64 0] := by kernel_rfl
theorem tf110_0 : tfield Try.prog 110 0 = some (0, 1, false) := by kernel_rfl
theorem tf110_1 : tfield Try.prog 110 1 = some (1, 1, false) := by kernel_rfl
theorem tpl110 : tplaces Try.prog 110 = some [(0, 1), (1, 1)] := by kernel_rfl
end Go.Proofs.Ytmnpnnegnlhemaa.Eng
namespace Go.Proofs.Ytmnpnnegnlhemaa.Eng
open Go
section
variable (P : Program) (E : Addr → Option Value) (Γ : Con) (ops : List Oper) (b : Nat) (τ0 : List SV) (H0 : List AB)
theorem drawSt_b (plan : Plan) (τ : List SV) (H : List AB) : drawSt P E Γ plan ops τ H = ⟨preL P E Γ ops H.length τ (H ++ holes ops) ops.length ∧ chkL P E Γ ops H.length τ (H ++ holes ops) plan,
    (pref P E Γ ops H.length τ (H ++ holes ops) ops.length).1, (pref P E Γ ops H.length τ (H ++ holes ops) ops.length).2⟩ := of_eq_true (eq_self _)
theorem preL_0 : preL P E Γ ops b τ0 H0 0 = True := of_eq_true (eq_self _)
theorem preL_b (i : Nat) : preL P E Γ ops b τ0 H0 (i + 1) = (preL P E Γ ops b τ0 H0 i ∧ (stp P E Γ ops b i (pref P E Γ ops b τ0 H0 i).1 (pref P E Γ ops b τ0 H0 i).2).pre) := of_eq_true (eq_self _)
theorem hpOf_0 : hpOf P E Γ ops b τ0 H0 [] = H0 := of_eq_true (eq_self _)
theorem hpOf_b (i : Nat) (T : List Nat) : hpOf P E Γ ops b τ0 H0 (i :: T) = (stp P E Γ ops b i (pref P E Γ ops b τ0 H0 i).1 (hpOf P E Γ ops b τ0 H0 T)).heap := of_eq_true (eq_self _)
theorem chk_b (T : List Nat) (i : Nat) : chk P E Γ ops b τ0 H0 T i = chk2 (effAt ops i) (stp P E Γ ops b i (pref P E Γ ops b τ0 H0 i).1 (pref P E Γ ops b τ0 H0 i).2).val (hpOf P E Γ ops b τ0 H0 (insE (effD ops ops.length) T i))
    (stp P E Γ ops b i (pref P E Γ ops b τ0 H0 i).1 (hpOf P E Γ ops b τ0 H0 T)) := of_eq_true (eq_self _)
theorem chkL_0 : chkL P E Γ ops b τ0 H0 [] = True := of_eq_true (eq_self _)
theorem chkL_b (T : List Nat) (i : Nat) (r : List (List Nat × Nat)) : chkL P E Γ ops b τ0 H0 ((T, i) :: r) = (chk P E Γ ops b τ0 H0 T i ∧ chkL P E Γ ops b τ0 H0 r) := of_eq_true (eq_self _)
end
theorem selC_t (p q : List SV → List AB → Prop) (τ : List SV) (H : List AB) : selC p q (.raw (.bool true)) τ H = p τ H := of_eq_true (eq_self _)
theorem selC_f (p q : List SV → List AB → Prop) (τ : List SV) (H : List AB) : selC p q (.raw (.bool false)) τ H = q τ H := of_eq_true (eq_self _)
/-! A drawn region in two passes: simp only [↓eng_draw, (the list without drawSt)] ends at drawC (a marker), its list and its heap reduced; simp only [drawC_regC, (the list)] goes on from there. In one pass the kernel hangs. -/
def drawC (q : List SV → List AB → Prop) (s : St) : Prop := regC q s
theorem drawC_regC (q : List SV → List AB → Prop) (s : St) : drawC q s = regC q s := of_eq_true (eq_self _)
theorem drawC_congr {q : List SV → List AB → Prop} {s s2 : St} (h : s = s2) : drawC q s = drawC q s2 := by rw [h]
theorem eng_draw (P : Program) (E : Addr → Option Value) (Γ : Con) (pl : Nat → Plan) (N n : Nat) (F : Fin) (id : Nat) (ops : Array Oper) (k : List Kt) (τ : List SV) (H : List AB) :
    eng P E Γ pl N (n + 1) F (.run (.region id ops true) k) τ H = drawC (eng P E Γ pl N n F (.pop .normal k)) (drawSt P E Γ (pl id) ops.toList τ H) := of_eq_true (eq_self _)
attribute [congr] drawC_congr
/-- As drawC, but what follows is not seen as a function (simp visits q where the congr law changes nothing). -/
def drawE (P : Program) (E : Addr → Option Value) (Γ : Con) (pl : Nat → Plan) (N n : Nat) (F : Fin) (k : List Kt) (s : St) : Prop := regC (eng P E Γ pl N n F (.pop .normal k)) s
theorem engE (P : Program) (E : Addr → Option Value) (Γ : Con) (pl : Nat → Plan) (N n : Nat) (F : Fin) (id : Nat) (ops : Array Oper) (k : List Kt) (τ : List SV) (H : List AB) :
    eng P E Γ pl N (n + 1) F (.run (.region id ops true) k) τ H = drawE P E Γ pl N n F k (drawSt P E Γ (pl id) ops.toList τ H) := of_eq_true (eq_self _)
theorem drawE_mk (P : Program) (E : Addr → Option Value) (Γ : Con) (pl : Nat → Plan) (N n : Nat) (F : Fin) (k : List Kt) (p : Prop) (τ : List SV) (H : List AB) :
    drawE P E Γ pl N n F k ⟨p, τ, H⟩ = (p ∧ eng P E Γ pl N n F (.pop .normal k) τ H) := of_eq_true (eq_self _)
end Go.Proofs.Ytmnpnnegnlhemaa.Eng
namespace Go.Proofs.Ytmnpnnegnlhemaa.Eng
open Go

abbrev ri (n : Int) : SV := .raw (.int .i64 n)
abbrev rb (b : Bool) : SV := .raw (.bool b)

theorem w64 {n : Int} (h1 : -9223372036854775808 ≤ n) (h2 : n ≤ 9223372036854775807) : IntKind.i64.wrap n = n := by
  rw [IntKind.wrap_i64]; omega

theorem lift0 {P : Program} {E : Addr → Option Value} {f : FuncId} {args : List SV} {v : SV} (h : Ok P E f args [] v []) (ha : ∀ τ : Nat → Nat, rens τ args = args) (hs : scs 0 args = true) (hv : ∀ τ : Nat → Nat, ren τ v = v) (H : List AB) : Ok P E f args H v H := by
  have := h.frame H [] (by simp [subH]) (by simp) hs (by simp [hwk])
  rw [ha, hv] at this
  simpa [updH] using this

def Γ0 : Con := fun _ _ _ => no
theorem Γ0_sound (E : Addr → Option Value) : Con.Sound Try.prog E Γ0 := fun _ _ _ h => h.elim

set_option maxRecDepth 100000 in
theorem ok44 (E : Addr → Option Value) (a b c : Int) : Ok Try.prog E 44 [ri a, ri b, ri c] [] (rb (decide (b ≤ a) && decide (a ≤ c))) [] := by
  refine ok_of_eng (pl := pl0) mixed (Γ0_sound E) Try.func44 rfl rfl (by kernel_rfl) (by simp) 100 (fun F hF => ?_)
  simp only [Try.f44, eng, litSt, pl0, srunA_nil, srunA_b, stepR, contB_mk, r0, r1, r2, regC, sop, unw, strip, sev, tg, tset, tput, undefs, needs, opNeeds, sBin, ibin, shiftOp, gb, gslot, gdst, onth, wants, sPick, List.length_cons, List.length_nil, List.cons_append, List.nil_append, true_and, and_self, or_true, implies_true, imp_self, ite_self, eq_self, Bool.false_eq_true, Bool.cond_false_right, Nat.zero_add, Nat.reduceAdd, Nat.reduceSub]
  exact hF _ _ _ ⟨trivial, by simp only [Try.f44, retP, sResults, sRes1, resK, retV, vwk, vwk1, hwk, sc, tg, List.length_nil, and_self, eq_self, Nat.le_refl]⟩

def c44 : List SV → List AB → Res
  | [.raw (.int .i64 a), .raw (.int .i64 b), .raw (.int .i64 c)], H => ⟨True, .raw (.bool (decide (b ≤ a) && decide (a ≤ c))), H⟩
  | _, _ => no

theorem c44_sound {E : Addr → Option Value} {args : List SV} {H : List AB} (h : (c44 args H).pre) : Ok Try.prog E 44 args H (c44 args H).val (c44 args H).heap := by
  unfold c44 at h ⊢
  split at h
  · exact lift0 (ok44 E _ _ _) (fun _ => rfl) rfl (fun _ => rfl) H
  · exact h.elim

def Γ1 : Con := fun f args H => match f with
  | .func 44 => c44 args H
  | _ => no
theorem Γ1_sound (E : Addr → Option Value) : Con.Sound Try.prog E Γ1 := by
  intro f args H h
  unfold Γ1 at h ⊢
  split at h
  · exact c44_sound h
  · exact h.elim

/-! ### Wait, valid -/
def wait (t s : Int) : Int := (t * (1000 + s) + 999) / 1000 + 1
def rules (t s : Int) : Bool := (decide (1 ≤ t) && decide (t ≤ 100000)) && (decide (0 ≤ s) && decide (s ≤ 1000))

set_option maxRecDepth 100000 in
theorem ok11 (E : Addr → Option Value) (t s : Int) : Ok Try.prog E 11 [ri t, ri s] [] (.tup [ri (if rules t s then wait t s else 0), ri (if rules t s then 0 else 4)]) [] := by
  refine ok_of_eng (pl := pl0) mixed (Γ1_sound E) Try.func11 rfl rfl (by kernel_rfl) (by simp) 100 (fun F hF => ?_)
  cases hr : rules t s with
  | true =>
    have h1 : (decide (1 ≤ t) && decide (t ≤ 100000)) = true := by simp [rules] at hr ⊢; omega
    have h2 : (decide (0 ≤ s) && decide (s ≤ 1000)) = true := by simp [rules] at hr ⊢; omega
    simp only [Try.f11, Γ1, c44, ri, h1, h2, eng, litSt, pl0, srunA_nil, srunA_b, stepR, contB_mk, r0, r1, r2, regC, sop, unw, strip, sev, tg, tset, tput, undefs, needs, opNeeds, sBin, ibin, shiftOp, gb, gslot, gdst, onth, wants, sPick, selC, sCall, sUn, List.length_cons, List.length_nil, List.cons_append, List.nil_append, List.map_cons, List.map_nil, true_and, and_self, or_true, implies_true, not_false_eq_true, eq_self, ne_eq, Bool.false_eq_true, Bool.not_true, Bool.not_false, Bool.cond_false, Nat.zero_add, ↓reduceIte, Nat.reduceAdd, Nat.reduceSub, Int.reduceEq]
    refine hF _ _ _ ⟨trivial, ?_⟩
    simp only [Try.f11, hr, ri, retP, sResults, sRes1, resK, retV, vwk, vwks, vwk1, hwk, sc, scs, tg, List.length_nil, true_and, and_true, and_self, eq_self, Bool.and_self, Nat.le_refl, SV.raw.injEq, Value.int.injEq, ↓reduceIte]
    simp [rules] at hr
    have q0 : IntKind.i64.wrap (1000 + s) = 1000 + s := w64 (by omega) (by omega)
    have q1 : 0 ≤ t * (1000 + s) := Int.mul_nonneg (by omega) (by omega)
    have q2 : t * (1000 + s) ≤ 100000 * 2000 := Int.mul_le_mul (by omega) (by omega) (by omega) (by omega)
    have q3 : IntKind.i64.wrap (t * (1000 + s)) = t * (1000 + s) := w64 (by omega) (by omega)
    have q4 : IntKind.i64.wrap (t * (1000 + s) + 1000) = t * (1000 + s) + 1000 := w64 (by omega) (by omega)
    have q5 : IntKind.i64.wrap (t * (1000 + s) + 1000 - 1) = t * (1000 + s) + 999 := by rw [w64 (by omega) (by omega)]; omega
    have q6 : (t * (1000 + s) + 999).tdiv 1000 = (t * (1000 + s) + 999) / 1000 := Int.tdiv_eq_ediv_of_nonneg (by omega)
    have q7 : IntKind.i64.wrap ((t * (1000 + s) + 999) / 1000) = (t * (1000 + s) + 999) / 1000 := w64 (by omega) (by omega)
    have q8 : IntKind.i64.wrap ((t * (1000 + s) + 999) / 1000 + 1) = (t * (1000 + s) + 999) / 1000 + 1 := w64 (by omega) (by omega)
    rw [q0, q3, q4, q5, q6, q7, q8]
    rfl
  | false =>
    cases h1 : (decide (1 ≤ t) && decide (t ≤ 100000)) with
    | true =>
      have h2 : (decide (0 ≤ s) && decide (s ≤ 1000)) = false := by rw [rules, h1] at hr; simpa using hr
      simp only [Try.f11, Γ1, c44, ri, h1, h2, eng, litSt, pl0, srunA_nil, srunA_b, stepR, contB_mk, r0, r1, r2, regC, sop, unw, strip, sev, tg, tset, tput, undefs, needs, opNeeds, gb, gslot, gdst, onth, wants, sPick, selC, sCall, sUn, List.length_cons, List.length_nil, List.cons_append, List.nil_append, List.map_cons, List.map_nil, true_and, and_self, implies_true, eq_self, Bool.false_eq_true, Bool.not_true, Bool.not_false, Bool.cond_false, Nat.zero_add, ↓reduceIte, Nat.reduceAdd, Nat.reduceSub]
      exact hF _ _ _ ⟨trivial, by simp only [Try.f11, hr, ri, retP, sResults, sRes1, resK, retV, vwk, vwks, vwk1, hwk, sc, scs, tg, List.length_nil, and_self, eq_self, Bool.false_eq_true, Bool.and_self, Nat.le_refl, ↓reduceIte]⟩
    | false =>
      simp only [Try.f11, Γ1, c44, ri, h1, eng, litSt, pl0, srunA_nil, srunA_b, stepR, contB_mk, r0, r1, r2, regC, sop, unw, strip, sev, tg, tset, tput, undefs, needs, opNeeds, gb, gslot, gdst, onth, wants, sPick, selC, sCall, sUn, List.length_cons, List.length_nil, List.cons_append, List.nil_append, List.map_cons, List.map_nil, true_and, and_self, implies_true, imp_self, eq_self, Bool.true_eq_false, Bool.false_eq_true, Bool.not_true, Bool.not_false, Bool.cond_true, Nat.zero_add, ↓reduceIte, Nat.reduceAdd, Nat.reduceSub]
      exact hF _ _ _ ⟨trivial, by simp only [Try.f11, hr, ri, retP, sResults, sRes1, resK, retV, vwk, vwks, vwk1, hwk, sc, scs, tg, List.length_nil, and_self, eq_self, Bool.false_eq_true, Bool.and_self, Nat.le_refl, ↓reduceIte]⟩

def c11 : List SV → List AB → Res
  | [.raw (.int .i64 t), .raw (.int .i64 s)], H => ⟨True, .tup [.raw (.int .i64 (if rules t s then wait t s else 0)), .raw (.int .i64 (if rules t s then 0 else 4))], H⟩
  | _, _ => no

theorem c11_sound {E : Addr → Option Value} {args : List SV} {H : List AB} (h : (c11 args H).pre) : Ok Try.prog E 11 args H (c11 args H).val (c11 args H).heap := by
  unfold c11 at h ⊢
  split at h
  · exact lift0 (ok11 E _ _) (fun _ => rfl) rfl (fun _ => rfl) H
  · exact h.elim

def valid (k n m : Int) : Bool := (decide (1 ≤ k) && decide (k ≤ 3)) && (decide (1 ≤ n) && decide (n ≤ 8)) && (decide (1 ≤ m) && decide (m ≤ 1099511627776))

set_option maxRecDepth 100000 in
theorem ok50 (E : Addr → Option Value) (k n m : Int) : Ok Try.prog E 50 [.agg [ri k, ri n, ri m]] [] (rb (valid k n m)) [] := by
  refine ok_of_eng (pl := pl0) mixed (Γ1_sound E) Try.func50 rfl rfl (by kernel_rfl) (by simp) 100 (fun F hF => ?_)
  simp only [Try.f50, Γ1, c44, ri, eng, litSt, pl0, srunA_nil, srunA_b, stepR, contB_mk, r0, r1, r2, regC, sop, unw, strip, sev, tg, tset, tput, undefs, needs, opNeeds, gb, gslot, gdst, onth, wants, sPick, sLoad, sField, sBox, sCall, cellsAt, hget, hd1, vcells, one, holeAt, idxAt, pushAt, List.length_cons, List.length_nil, List.cons_append, List.nil_append, List.map_cons, List.map_nil, List.take_succ_cons, List.take_zero, List.take_nil, List.drop_succ_cons, List.drop_zero, List.all_cons, List.all_nil, true_and, and_self, implies_true, imp_self, ite_self, not_false_eq_true, eq_self, ne_eq, Bool.and_self, Bool.cond_false_right, Nat.zero_add, Nat.add_zero, Nat.le_refl, reduceCtorEq, Value.oneCell', Nat.reduceAdd, Nat.reduceSub, Nat.reduceLeDiff, tk3, ta3, tf41_0, tf41_1, tf41_2]
  exact hF _ _ _ ⟨trivial, by simp only [Try.f50, rb, valid, retP, sResults, sRes1, resK, retV, vwk, vwk1, hwk, sc, tg, List.length_nil, and_self, eq_self, Nat.le_refl]⟩

def c50 : List SV → List AB → Res
  | [.agg [.raw (.int .i64 k), .raw (.int .i64 n), .raw (.int .i64 m)]], H => ⟨True, .raw (.bool (valid k n m)), H⟩
  | _, _ => no

theorem c50_sound {E : Addr → Option Value} {args : List SV} {H : List AB} (h : (c50 args H).pre) : Ok Try.prog E 50 args H (c50 args H).val (c50 args H).heap := by
  unfold c50 at h ⊢
  split at h
  · exact lift0 (ok50 E _ _ _) (fun _ => rfl) rfl (fun _ => rfl) H
  · exact h.elim

/-! ### A centre in memory -/
structure Cen where
  now : Int
  node : Int
  number : Int
  since : Int
  wait : Int
  wanted : Int
  n : Nat
  gr : Nat → Int

def encC (c : Cen) : List AB :=
  [.cells [ri c.now, ri c.node, ri c.number, ri c.since, rb true, ri c.wait, ri c.wanted, .lst 1 1 0 c.n, .mapv 2] 90,
   .lst c.n 1 (fun k => [ri (c.gr k)]) 3,
   .map [(.int .i64 1, .fn (.func 45) [.ptr 0 0] []), (.int .i64 3, .fn (.func 46) [.ptr 0 0] [])]]

def lix : SV → Nat
  | .lst i _ _ _ => i
  | _ => 0
def mix : SV → Nat
  | .mapv i => i
  | _ => 0
def ivn : SV → Int
  | .raw (.int _ n) => n
  | _ => 0
def cellOf : AB → Nat → SV
  | .cells cs _, j => tg cs j
  | _, _ => .junk
def lstN : AB → Nat
  | .lst n _ _ _ => n
  | _ => 0
def lstF : AB → Nat → List SV
  | .lst _ _ f _ => f
  | _ => fun _ => []
def nodupB : List Nat → Bool
  | [] => true
  | i :: l => !(l.contains i) && nodupB l
theorem nodupB_spec : ∀ {l : List Nat}, nodupB l = true → l.Nodup
  | [], _ => by simp
  | i :: l, h => by
    simp only [nodupB, Bool.and_eq_true, Bool.not_eq_true'] at h
    rw [List.nodup_cons]
    exact ⟨fun hm => (by rw [List.contains_iff_mem.2 hm] at h; cases h.1), nodupB_spec h.2⟩

def sigC (H : List AB) (i : Nat) : List Nat := [i, lix (cellOf (hget H i) 7), mix (cellOf (hget H i) 8)]
def decC2 (A B : AB) : Cen :=
  { now := ivn (cellOf A 0), node := ivn (cellOf A 1), number := ivn (cellOf A 2), since := ivn (cellOf A 3), wait := ivn (cellOf A 5), wanted := ivn (cellOf A 6), n := lstN B, gr := fun k => ivn (hd1 (lstF B k)) }
def decC (H : List AB) (i : Nat) : Cen := decC2 (hget H i) (hget H (lix (cellOf (hget H i) 7)))

theorem hwk_encC (c : Cen) : hwk (encC c).length (encC c) (encC c) := by
  simp only [encC, vwks, vwk1, hwk, bwk, sc, scs, scEnts, List.length_cons, List.length_nil, and_self, implies_true, eq_self, Bool.and_self, decide_true, Nat.zero_add, Nat.le_refl, Nat.reduceAdd, Nat.reduceLT]

/-- A method of a centre: what it does to the centre, and what it returns. -/
def onC (f : Cen → SV × Cen) (pre : Cen → Prop) (H : List AB) (i : Nat) : Res :=
  ⟨(subH (sig (sigC H i) H.length) H (sigC H i) (encC (decC H i)) ∧ nodupB (sigC H i) = true) ∧ pre (decC H i), (f (decC H i)).1, updH (sig (sigC H i) H.length) H (sigC H i) (encC (f (decC H i)).2)⟩

theorem onC_sound {E : Addr → Option Value} {fn : FuncId} {args : List SV} {f : Cen → SV × Cen} {pre : Cen → Prop} {H : List AB} {i : Nat} (hok : ∀ c, pre c → Ok Try.prog E fn (.ptr 0 0 :: args) (encC c) (f c).1 (encC (f c).2))
    (ha : ∀ τ : Nat → Nat, rens τ args = args) (hs : scs 3 args = true) (hv : ∀ c (τ : Nat → Nat), ren τ (f c).1 = (f c).1) (h : (onC f pre H i).pre) : Ok Try.prog E fn (.ptr i 0 :: args) H (onC f pre H i).val (onC f pre H i).heap := by
  obtain ⟨⟨h1, h2⟩, h3⟩ := h
  have := (hok (decC H i) h3).frame H (sigC H i) h1 (nodupB_spec h2) (by simp only [scs, sc, encC, List.length_cons, List.length_nil, hs]; rfl) (hwk_encC _)
  simp only [rens, ren, ha, hv] at this
  rwa [show sig (sigC H i) H.length 0 = i from rfl] at this

end Go.Proofs.Ytmnpnnegnlhemaa.Eng
namespace Go.Proofs.Ytmnpnnegnlhemaa.Eng
open Go

set_option maxRecDepth 100000 in
theorem ok55 (E : Addr → Option Value) (c : Cen) : Ok Try.prog E 55 [.ptr 0 0] (encC c) (rb true) (encC c) := by
  refine ok_of_eng (pl := pl0) mixed (Γ0_sound E) Try.func55 rfl rfl (by kernel_rfl) (by simp) 100 (fun F hF => ?_)
  simp only [Try.f55, encC, ri, rb, eng, litSt, pl0, srunA_nil, srunA_b, stepR, contB_mk, r0, r1, r2, regC, sop, unw, strip, sev, tg, tset, tput, undefs, needs, opNeeds, sBin, gb, gslot, gdst, onth, wants, sPick, sLoad, sNil, sField, cellsAt, hget, hd1, List.length_cons, List.length_nil, List.cons_append, List.nil_append, List.take_succ_cons, List.take_zero, List.drop_succ_cons, List.drop_zero, true_and, and_self, implies_true, not_false_eq_true, eq_self, ne_eq, Bool.true_eq_false, Bool.cond_true, Nat.zero_add, reduceCtorEq, ↓reduceIte, Nat.reduceAdd, Nat.reduceSub, Nat.reduceLeDiff, tk4, ta4, tp27, tf90_2]
  exact hF _ _ _ ⟨trivial, by simp only [Try.f55, encC, ri, rb, retP, sResults, sRes1, resK, retV, vwk, vwks, vwk1, hwk, bwk, sc, scs, scEnts, tg, List.length_cons, List.length_nil, and_self, implies_true, eq_self, Bool.and_self, decide_true, Nat.zero_add, Nat.le_refl, Nat.reduceAdd, Nat.reduceLT]⟩

def isC (c : Cen) : SV × Cen := (.raw (.bool true), c)
def noneC (_ : Cen) : Prop := True

/-! tick -/
def Cen.tk (c : Cen) : Cen := { c with now := IntKind.i64.wrap (c.now + 1) }
set_option maxRecDepth 100000 in
theorem ok54C (E : Addr → Option Value) (c : Cen) : Ok Try.prog E 54 [.ptr 0 0] (encC c) (.tup []) (encC c.tk) := by
  refine ok_of_eng (pl := pl0) mixed (Γ0_sound E) Try.func54 rfl rfl (by kernel_rfl) (by simp [encC]) 100 (fun F hF => ?_)
  simp only [Try.f54, encC, ri, rb, eng, litSt, pl0, srunA_nil, srunA_b, stepR, contB_mk, r0, regC, sop, unw, strip, sev, tg, tset, tput, undefs, needs, opNeeds, sBin, ibin, shiftOp, sLoad, sStore, sNil, sField, cellsAt, hget, hset, hd1, vcells, one, splice, List.length_cons, List.length_nil, List.cons_append, List.nil_append, List.take_succ_cons, List.take_zero, List.drop_succ_cons, List.drop_zero, List.all_cons, List.all_nil, true_and, and_self, or_true, not_false_eq_true, eq_self, ne_eq, Bool.false_eq_true, Bool.and_self, Nat.zero_add, Nat.add_zero, reduceCtorEq, Value.oneCell', Nat.reduceAdd, Nat.reduceSub, Nat.reduceLeDiff, tk3, ts3, ta3, tf85_0]
  exact hF _ _ _ ⟨trivial, by simp only [Try.f54, encC, Cen.tk, ri, rb, retP, sResults, retV, vwk, vwks, vwk1, hwk, bwk, sc, scs, scEnts, List.length_cons, List.length_nil, and_self, implies_true, eq_self, Bool.and_self, decide_true, Nat.zero_add, Nat.le_refl, Nat.reduceAdd, Nat.reduceLT]⟩

def ΓC : Con := fun f args H => match f with
  | .func 44 => c44 args H
  | .func 50 => c50 args H
  | .func 54 => match args with
    | [.ptr i 0] => onC (fun c => (.tup [], c.tk)) noneC H i
    | _ => no
  | .func 55 => match args with
    | [.ptr i 0] => onC isC noneC H i
    | _ => no
  | _ => no
theorem ΓC_sound (E : Addr → Option Value) : Con.Sound Try.prog E ΓC := by
  intro f args H h
  unfold ΓC at h ⊢
  split at h
  · exact c44_sound h
  · exact c50_sound h
  · split at h
    · exact onC_sound (args := []) (fun c _ => ok54C E c) (fun _ => rfl) rfl (fun _ _ => rfl) h
    · exact h.elim
  · split at h
    · exact onC_sound (args := []) (fun c _ => ok55 E c) (fun _ => rfl) rfl (fun _ _ => rfl) h
    · exact h.elim
  · exact h.elim

set_option maxRecDepth 100000 in
theorem ok39 (E : Addr → Option Value) (c : Cen) : Ok Try.prog E 39 [.ptr 0 0] (encC c) (rb (decide (c.node = 0))) (encC c) := by
  refine ok_of_eng (pl := pl0) mixed (ΓC_sound E) Try.func39 rfl rfl (by kernel_rfl) (by simp) 100 (fun F hF => ?_)
  simp only [Try.f39, ΓC, onC, isC, noneC, sigC, decC, decC2, lix, mix, ivn, cellOf, lstN, lstF, nodupB, encC, ri, rb, renB, rens, ren, renEnts, sig, subH, updH, eng, litSt, pl0, srunA_nil, srunA_b, stepR, contB_mk, r0, r1, r2, regC, sop, unw, strip, sev, tg, tset, tput, undefs, needs, opNeeds, sBin, ibin, shiftOp, gb, gslot, gdst, onth, wants, sPick, sLoad, sNil, sField, sCall, cellsAt, hget, hset, hd1, List.length_cons, List.length_nil, List.cons_append, List.nil_append, List.append_nil, List.map_cons, List.map_nil, List.take_succ_cons, List.take_zero, List.drop_succ_cons, List.drop_zero, List.contains_cons, List.contains_nil, List.getElem?_cons_zero, List.getElem?_cons_succ, true_and, and_self, or_true, implies_true, not_false_eq_true, eq_self, ne_eq, Bool.true_eq_false, Bool.false_eq_true, Bool.not_false, Bool.or_false, Bool.and_self, Bool.cond_true, Nat.zero_add, Nat.add_zero, Option.getD_some, reduceCtorEq, ↓reduceIte, Nat.reduceAdd, Nat.reduceSub, Nat.reduceLT, Nat.reduceLeDiff, Nat.reduceBEq, tk3, ta3, tf87_0, tf90_1]
  exact hF _ _ _ ⟨trivial, by simp only [Try.f39, encC, ri, rb, retP, sResults, sRes1, resK, retV, vwk, vwks, vwk1, hwk, bwk, sc, scs, scEnts, tg, List.length_cons, List.length_nil, and_self, implies_true, eq_self, Bool.and_self, decide_true, Nat.zero_add, Nat.le_refl, Nat.reduceAdd, Nat.reduceLT]⟩

def pl37 : Nat → Plan
  | _ => []
set_option maxRecDepth 100000 in
theorem ok37 (E : Addr → Option Value) (c : Cen) : Ok Try.prog E 37 [.ptr 0 0] (encC c) (.tup [ri c.node, ri c.since]) (encC c) := by
  refine ok_of_eng (pl := pl37) mixed (ΓC_sound E) Try.func37 rfl rfl (by kernel_rfl) (by simp) 100 (fun F hF => ?_)
  simp only [Try.f37, pl37, ΓC, onC, isC, noneC, sigC, decC, decC2, lix, mix, ivn, cellOf, lstN, lstF, nodupB, encC, ri, rb, renB, rens, ren, renEnts, sig, subH, updH, eng, litSt, srunA_nil, srunA_b, stepR, contB_mk, r0, regC, sop, unw, strip, sev, tg, tset, tput, undefs, needs, opNeeds, gdst, onth, selC, sLoad, sNil, sField, sCall, sUn, cellsAt, hget, hset, hd1, drawSt, preL, chkL, stp, nxtB_mk, pref_0, pref_b, allocOp, holes, List.length_cons, List.length_nil, List.cons_append, List.nil_append, List.append_nil, List.map_cons, List.map_nil, List.take_succ_cons, List.take_zero, List.drop_succ_cons, List.drop_zero, List.contains_cons, List.contains_nil, List.getElem?_cons_zero, List.getElem?_cons_succ, true_and, and_self, not_false_eq_true, eq_self, ne_eq, Bool.not_true, Bool.not_false, Bool.or_false, Bool.and_self, Nat.zero_add, Nat.add_zero, Option.getD_some, reduceCtorEq, Nat.reduceAdd, Nat.reduceSub, Nat.reduceLT, Nat.reduceLeDiff, Nat.reduceBEq, tk3, ta3, tf87_0, tf87_2, tf90_1]
  exact hF _ _ _ ⟨trivial, by simp only [Try.f37, encC, ri, rb, retP, sResults, sRes1, resK, retV, vwk, vwks, vwk1, hwk, bwk, sc, scs, scEnts, tg, List.length_cons, List.length_nil, and_self, implies_true, eq_self, Bool.and_self, decide_true, Nat.zero_add, Nat.le_refl, Nat.reduceAdd, Nat.reduceLT]⟩

def Cen.brk (c : Cen) : Cen := { c with node := -1, number := 0, since := c.now }
def pl33 : Nat → Plan
  | _ => []
set_option maxRecDepth 100000 in
theorem ok33 (E : Addr → Option Value) (c : Cen) : Ok Try.prog E 33 [.ptr 0 0] (encC c) (ri 0) (encC c.brk) := by
  refine ok_of_eng (pl := pl33) mixed (ΓC_sound E) Try.func33 rfl rfl (by kernel_rfl) (by simp [encC]) 100 (fun F hF => ?_)
  simp only [Try.f33, pl33, ΓC, onC, isC, noneC, sigC, decC, decC2, lix, mix, ivn, cellOf, lstN, lstF, nodupB, encC, ri, rb, renB, rens, ren, renEnts, sig, subH, updH, eng, litSt, srunA_nil, srunA_b, stepR, contB_mk, r0, regC, sop, unw, strip, sev, tg, tset, tput, undefs, needs, opNeeds, selC, sLoad, sStore, sNil, sField, sFill, sBuild, sCall, sUn, cellsAt, hget, hset, hd1, vcells, one, whole, splice, nth, List.length_cons, List.length_nil, List.cons_append, List.nil_append, List.append_nil, List.map_cons, List.map_nil, List.take_succ_cons, List.take_zero, List.drop_succ_cons, List.drop_zero, List.drop_nil, List.all_cons, List.all_nil, List.contains_cons, List.contains_nil, List.getElem?_cons_zero, List.getElem?_cons_succ, true_and, and_self, not_false_eq_true, eq_self, ne_eq, Bool.not_true, Bool.not_false, Bool.or_false, Bool.and_self, Nat.zero_add, Nat.add_zero, Nat.le_refl, Option.getD_some, reduceCtorEq, Value.oneCell', Nat.reduceAdd, Nat.reduceSub, Nat.reduceLT, Nat.reduceLeDiff, Nat.reduceBEq, Int.reduceNeg, tk3, ta3, tf85_0, tk87, ts87, tz87, tpl87, tf90_0, tf90_1]
  exact hF _ _ _ ⟨trivial, by simp only [Try.f33, encC, Cen.brk, ri, rb, retP, sResults, sRes1, resK, retV, vwk, vwks, vwk1, hwk, bwk, sc, scs, scEnts, tg, List.length_cons, List.length_nil, and_self, implies_true, eq_self, Bool.and_self, decide_true, Nat.zero_add, Nat.le_refl, Nat.reduceAdd, Nat.reduceLT, Int.reduceNeg]⟩

def Cen.out (c : Cen) : Bool := !decide (c.node = 0) && decide (IntKind.i64.wrap (c.since + c.wait) ≤ IntKind.i64.wrap (c.now + 1))
def Cen.tick (c : Cen) : Cen := if c.out = true then { c.tk with node := 0, number := 0, since := 0 } else c.tk
def pl35 : Nat → Plan
  | _ => []
set_option maxRecDepth 100000 in
theorem ok35 (E : Addr → Option Value) (c : Cen) : Ok Try.prog E 35 [.ptr 0 0] (encC c) (ri 0) (encC c.tick) := by
  refine ok_of_eng (pl := pl35) mixed (ΓC_sound E) Try.func35 rfl rfl (by kernel_rfl) (by simp [encC]) 100 (fun F hF => ?_)
  simp only [Try.f35, pl35, ΓC, onC, isC, noneC, sigC, decC, decC2, lix, mix, ivn, cellOf, lstN, lstF, nodupB, encC, Cen.tk, ri, rb, renB, rens, ren, renEnts, sig, subH, updH, eng, litSt, srunA_nil, srunA_b, stepR, contB_mk, r0, r1, r2, regC, sop, unw, strip, sev, tg, tset, tput, undefs, needs, opNeeds, sBin, ibin, shiftOp, gb, gslot, gdst, onth, wants, sPick, selC, sLoad, sStore, sNil, sField, sFill, sBuild, sCall, sUn, cellsAt, hget, hset, hd1, vcells, one, splice, nth, drawSt, preL, chkL, stp, nxtB_mk, pref_0, pref_b, allocOp, holes, List.length_cons, List.length_nil, List.cons_append, List.nil_append, List.append_nil, List.map_cons, List.map_nil, List.take_succ_cons, List.take_zero, List.drop_succ_cons, List.drop_zero, List.all_cons, List.all_nil, List.contains_cons, List.contains_nil, List.getElem?_cons_zero, List.getElem?_cons_succ, true_and, and_self, or_true, implies_true, imp_self, ite_self, not_false_eq_true, eq_self, ne_eq, Bool.false_eq_true, Bool.not_true, Bool.not_false, Bool.or_false, Bool.and_self, Bool.cond_false_right, Nat.zero_add, Nat.add_zero, Option.getD_some, reduceCtorEq, Value.oneCell', Nat.reduceAdd, Nat.reduceSub, Nat.reduceLT, Nat.reduceLeDiff, Nat.reduceBEq, tk3, ta3, tf85_0, tk87, ts87, tz87, tf87_0, tf87_2, tpl87, tf90_0, tf90_1, tf90_3]
  cases h : c.out with
  | true =>
    unfold Cen.out at h
    simp only [h]
    exact hF _ _ _ ⟨trivial, by simp only [Try.f35, encC, Cen.tick, Cen.out, Cen.tk, h, ri, rb, retP, sResults, sRes1, resK, retV, vwk, vwks, vwk1, hwk, bwk, sc, scs, scEnts, tg, List.length_cons, List.length_nil, and_self, implies_true, eq_self, Bool.and_self, decide_true, Nat.zero_add, Nat.le_refl, ↓reduceIte, Nat.reduceAdd, Nat.reduceLT]⟩
  | false =>
    unfold Cen.out at h
    simp only [h]
    exact hF _ _ _ ⟨trivial, by simp only [Try.f35, encC, Cen.tick, Cen.out, Cen.tk, h, ri, rb, retP, sResults, sRes1, resK, retV, vwk, vwks, vwk1, hwk, bwk, sc, scs, scEnts, tg, List.length_cons, List.length_nil, and_self, implies_true, eq_self, Bool.false_eq_true, Bool.and_self, decide_true, Nat.zero_add, Nat.le_refl, ↓reduceIte, Nat.reduceAdd, Nat.reduceLT]⟩

def pl29 : Nat → Plan
  | _ => []
def Cen.want (c : Cen) (k : Int) : Cen := if (decide (0 ≤ k) && decide (k ≤ IntKind.i64.wrap (c.n - 1))) = true then { c with wanted := k } else c
set_option maxRecDepth 100000 in
theorem ok29 (E : Addr → Option Value) (c : Cen) (k : Int) : Ok Try.prog E 29 [.ptr 0 0, ri k] (encC c) (ri (if (decide (0 ≤ k) && decide (k ≤ IntKind.i64.wrap (c.n - 1))) = true then 0 else 7)) (encC (c.want k)) := by
  refine ok_of_eng (pl := pl29) mixed (ΓC_sound E) Try.func29 rfl rfl (by kernel_rfl) (by simp [encC]) 100 (fun F hF => ?_)
  simp only [Try.f29, pl29, ΓC, onC, isC, noneC, sigC, decC, decC2, lix, mix, ivn, cellOf, lstN, lstF, nodupB, encC, c44, ri, rb, renB, rens, ren, renEnts, sig, subH, updH, eng, litSt, srunA_nil, srunA_b, stepR, contB_mk, r0, regC, sop, unw, strip, sev, tg, tset, tput, undefs, needs, opNeeds, sBin, ibin, shiftOp, selC, sLoad, sStore, sNil, sField, sLen, sCall, sBuiltin, sUn, cellsAt, hget, hset, hd1, vcells, one, splice, List.length_cons, List.length_nil, List.cons_append, List.nil_append, List.append_nil, List.map_cons, List.map_nil, List.take_succ_cons, List.take_zero, List.drop_succ_cons, List.drop_zero, List.all_cons, List.all_nil, List.contains_cons, List.contains_nil, List.getElem?_cons_zero, List.getElem?_cons_succ, true_and, and_self, or_true, not_false_eq_true, eq_self, ne_eq, Bool.false_eq_true, Bool.not_true, Bool.not_false, Bool.or_false, Bool.and_self, Nat.zero_add, Nat.add_zero, Option.getD_some, reduceCtorEq, Value.oneCell', Nat.reduceAdd, Nat.reduceSub, Nat.reduceLT, Nat.reduceLeDiff, Nat.reduceBEq, tk3, ts3, tk73, ta73, te73, tf90_4, tf90_5]
  cases h1 : decide (0 ≤ k) <;> cases h2 : decide (k ≤ IntKind.i64.wrap (c.n - 1)) <;> simp only [Bool.not_true, Bool.not_false, Bool.and_true, Bool.and_false, Bool.and_self] <;>
    exact hF _ _ _ ⟨trivial, by simp only [Try.f29, encC, Cen.want, h1, h2, ri, rb, retP, sResults, sRes1, resK, retV, vwk, vwks, vwk1, hwk, bwk, sc, scs, scEnts, tg, List.length_cons, List.length_nil, and_self, implies_true, eq_self, Bool.false_eq_true, Bool.and_true, Bool.and_false, Bool.and_self, decide_true, Nat.zero_add, Nat.le_refl, ↓reduceIte, Nat.reduceAdd, Nat.reduceLT]⟩

/-! the words that it hears -/
def word (k n m : Int) : SV := .agg [ri k, ri n, ri m]
def upd (gr : Nat → Int) (k : Nat) (m : Int) : Nat → Int := fun j => if j = k then m else gr j
def pl45 : Nat → Plan
  | _ => []
def Cen.gives (c : Cen) (n : Int) : Bool := decide (n = c.wanted) && (decide (c.node = 0) || decide (c.node = n))
def Cen.got (c : Cen) (n m : Int) : Bool := !decide (m ≤ c.gr n.toNat) && c.gives n
def Cen.ask (c : Cen) (n m : Int) : Cen :=
  if decide (m ≤ c.gr n.toNat) = true then c
  else if c.gives n = true then { c with gr := upd c.gr n.toNat m, node := n, number := m, since := c.now }
  else { c with gr := upd c.gr n.toNat m }
def Cen.grants (c : Cen) (n m : Int) : SV := word (if c.got n m = true then 2 else 0) (if c.got n m = true then n else 0) (if c.got n m = true then m else 0)
set_option maxRecDepth 100000 in
theorem ok45 (E : Addr → Option Value) (c : Cen) (k n m : Int) (h0 : 0 ≤ n) (h1 : n < c.n) : Ok Try.prog E 45 [.ptr 0 0, word k n m] (encC c) (c.grants n m) (encC (c.ask n m)) := by
  have h2 : n.toNat < c.n := by omega
  refine ok_of_eng (pl := pl45) mixed (ΓC_sound E) Try.func45 rfl rfl (by kernel_rfl) (by simp [encC]) 100 (fun F hF => ?_)
  simp only [Try.f45, pl45, encC, word, h0, h1, h2, ri, rb, eng, litSt, srunA_nil, srunA_b, stepR, contB_mk, r0, r1, r2, regC, sop, unw, strip, sev, tg, tset, tput, undefs, needs, opNeeds, sBin, ibin, shiftOp, gb, gslot, gdst, onth, wants, sPick, selC, sLoad, sStore, sNil, sField, sIndex, sNew, sAlloc, sBox, sFill, sBuild, cellsAt, hget, hset, hd1, vcells, one, whole, splice, holeAt, idxAt, pushAt, nth, drawSt, preL, chkL, stp, nxtB_mk, pref_0, pref_b, allocOp, holes, List.length_cons, List.length_nil, List.cons_append, List.nil_append, List.append_nil, List.map_cons, List.map_nil, List.take_succ_cons, List.take_zero, List.take_nil, List.drop_succ_cons, List.drop_zero, List.drop_nil, List.all_cons, List.all_nil, true_and, and_true, and_self, or_true, implies_true, imp_self, ite_self, not_false_eq_true, eq_self, ne_eq, Bool.false_eq_true, Bool.and_self, Bool.cond_false_right, Bool.cond_true_left, Nat.zero_add, Nat.add_zero, Nat.le_refl, reduceCtorEq, Value.oneCell', Nat.reduceAdd, Nat.reduceSub, Nat.reduceLeDiff, tk3, ts3, ta3, tk41, ts41, tz41, tf41_1, tf41_2, tpl41, tk73, ta73, te73, tf85_0, tk87, ts87, tz87, tf87_0, tpl87, tf90_0, tf90_1, tf90_4, tf90_5]
  cases hg : decide (m ≤ c.gr n.toNat) with
  | true => exact hF _ _ _ ⟨trivial, by simp only [Try.f45, encC, Cen.ask, Cen.grants, Cen.got, word, hg, ri, rb, retP, sResults, sRes1, resK, retV, vwk, vwks, vwk1, hwk, bwk, sc, scs, scEnts, tg, sLoad, cellsAt, hget, List.length_cons, List.length_nil, List.take_succ_cons, List.take_nil, List.drop_zero, and_self, implies_true, eq_self, Bool.false_eq_true, Bool.not_true, Bool.false_and, Bool.and_self, decide_true, Nat.zero_add, Nat.le_refl, ↓reduceIte, Nat.reduceAdd, Nat.reduceLT, tk41, ts41, ta41]⟩
  | false =>
    refine ⟨by cases decide (n = c.wanted) <;> cases decide (c.node = 0) <;> simp, ?_⟩
    cases ha : decide (n = c.wanted) <;> cases hb : decide (c.node = 0) <;> cases hc : decide (c.node = n) <;> simp only [Bool.not_true, Bool.not_false, Bool.and_true, Bool.and_false, Bool.or_true, Bool.or_false, Bool.and_self] <;>
      refine hF _ _ _ ⟨trivial, ?_⟩ <;> simp only [Try.f45, encC, Cen.ask, Cen.grants, Cen.got, Cen.gives, word, hg, ha, hb, hc, ri, rb, retP, sResults, sRes1, resK, retV, vwk, vwks, vwk1, hwk, bwk, sc, scs, scEnts, tg, sLoad, cellsAt, hget, List.length_cons, List.length_nil, List.take_succ_cons, List.take_nil, List.drop_zero, true_and, and_true, and_self, implies_true, eq_self, Bool.false_eq_true, Bool.not_false, Bool.and_true, Bool.and_false, Bool.or_true, Bool.or_false, Bool.and_self, decide_true, Nat.zero_add, Nat.le_refl, ↓reduceIte, Nat.reduceAdd, Nat.reduceLT, tk41, ts41, ta41] <;> (intro j _; unfold upd; split <;> rfl)

def pl46 : Nat → Plan
  | _ => []
def Cen.drops (c : Cen) (n m : Int) : Bool := decide (c.node = n) && decide (c.number ≤ m)
def Cen.back (c : Cen) (n m : Int) : Cen :=
  if c.drops n m = true then { c with gr := upd c.gr n.toNat (max (c.gr n.toNat) m), node := 0, number := 0, since := 0 } else { c with gr := upd c.gr n.toNat (max (c.gr n.toNat) m) }
set_option maxRecDepth 100000 in
theorem ok46 (E : Addr → Option Value) (c : Cen) (k n m : Int) (h0 : 0 ≤ n) (h1 : n < c.n) : Ok Try.prog E 46 [.ptr 0 0, word k n m] (encC c) (word 0 0 0) (encC (c.back n m)) := by
  have h2 : n.toNat < c.n := by omega
  refine ok_of_eng (pl := pl46) mixed (ΓC_sound E) Try.func46 rfl rfl (by kernel_rfl) (by simp [encC]) 100 (fun F hF => ?_)
  simp only [Try.f46, pl46, encC, word, h0, h1, h2, ri, rb, eng, litSt, srunA_nil, srunA_b, stepR, contB_mk, r0, r1, r2, regC, sop, unw, strip, sev, tg, tset, tput, undefs, needs, opNeeds, sBin, ibin, shiftOp, gb, gslot, gdst, onth, wants, sPick, selC, sLoad, sStore, sNil, sMax, sField, sIndex, sNew, sAlloc, sBox, sFill, sBuild, sBuiltin, cellsAt, hget, hset, hd1, vcells, one, splice, holeAt, idxAt, pushAt, nth, drawSt, preL, chkL, stp, nxtB_mk, pref_0, pref_b, allocOp, holes, List.length_cons, List.length_nil, List.cons_append, List.nil_append, List.append_nil, List.map_cons, List.map_nil, List.take_succ_cons, List.take_zero, List.take_nil, List.drop_succ_cons, List.drop_zero, List.drop_nil, List.all_cons, List.all_nil, true_and, and_self, or_true, implies_true, imp_self, ite_self, not_false_eq_true, eq_self, ne_eq, Bool.false_eq_true, Bool.and_self, Bool.cond_false_right, Nat.zero_add, Nat.add_zero, Nat.le_refl, reduceCtorEq, Value.oneCell', Nat.reduceAdd, Nat.reduceSub, Nat.reduceLeDiff, tk3, ts3, ta3, tk41, ts41, tz41, tf41_1, tf41_2, tpl41, tk73, ta73, te73, tk87, ts87, tz87, tf87_0, tf87_1, tpl87, tf90_1, tf90_5]
  cases ha : decide (c.node = n) <;> cases hb : decide (c.number ≤ m) <;> simp only [Bool.and_true, Bool.and_false, Bool.and_self] <;>
    refine hF _ _ _ ⟨trivial, ?_⟩ <;> simp only [Try.f46, encC, Cen.back, Cen.drops, word, ha, hb, ri, rb, retP, sResults, sRes1, resK, retV, vwk, vwks, vwk1, hwk, bwk, sc, scs, scEnts, tg, sLoad, cellsAt, hget, List.length_cons, List.length_nil, List.take_succ_cons, List.take_nil, List.drop_zero, true_and, and_true, and_self, implies_true, eq_self, Bool.false_eq_true, Bool.and_true, Bool.and_false, Bool.and_self, decide_true, Nat.zero_add, Nat.le_refl, ↓reduceIte, Nat.reduceAdd, Nat.reduceLT, tk41, ts41, ta41] <;> (intro j _; unfold upd; split <;> rfl)

def inC (n : Int) (c : Cen) : Prop := 0 ≤ n ∧ n < c.n
def ΓH : Con := fun f args H => match f with
  | .func 45 => match args with
    | [.ptr i 0, .agg [.raw (.int .i64 _), .raw (.int .i64 n), .raw (.int .i64 m)]] => onC (fun c => (c.grants n m, c.ask n m)) (inC n) H i
    | _ => no
  | .func 46 => match args with
    | [.ptr i 0, .agg [.raw (.int .i64 _), .raw (.int .i64 n), .raw (.int .i64 m)]] => onC (fun c => (.agg [.raw (.int .i64 0), .raw (.int .i64 0), .raw (.int .i64 0)], c.back n m)) (inC n) H i
    | _ => no
  | f => ΓC f args H
theorem ΓH_sound (E : Addr → Option Value) : Con.Sound Try.prog E ΓH := by
  intro f args H h
  unfold ΓH at h ⊢
  split at h
  · split at h
    · rename_i i k n m
      exact onC_sound (args := [word k n m]) (fun c hc => ok45 E c k n m hc.1 hc.2) (fun _ => rfl) rfl (fun _ _ => rfl) h
    · exact h.elim
  · split at h
    · rename_i i k n m
      exact onC_sound (args := [word k n m]) (fun c hc => ok46 E c k n m hc.1 hc.2) (fun _ => rfl) rfl (fun _ _ => rfl) h
    · exact h.elim
  · exact ΓC_sound E f args H h

def pl31 : Nat → Plan
  | _ => []
/-- What the centre answers, and how it ends. -/
def Cen.err (c : Cen) (k n m : Int) : Int := if valid k n m = true then (if decide (c.n ≤ n) = true then 7 else 0) else 2
def Cen.reply (c : Cen) (k n m : Int) : Bool := valid k n m && !decide (c.n ≤ n) && decide (k = 1) && c.got n m
def Cen.hear (c : Cen) (k n m : Int) : Cen :=
  if valid k n m = true then
    if decide (c.n ≤ n) = true then c
    else if decide (k = 1) = true then c.ask n m
    else if decide (k = 3) = true then c.back n m
    else c
  else c
def Cen.says (c : Cen) (k n m : Int) : SV := word (if c.reply k n m = true then 2 else 0) (if c.reply k n m = true then n else 0) (if c.reply k n m = true then m else 0)
set_option maxRecDepth 100000 in
theorem ok31 (E : Addr → Option Value) (c : Cen) (k n m : Int) : Ok Try.prog E 31 [.ptr 0 0, word k n m] (encC c) (.tup [c.says k n m, ri (c.err k n m)]) (encC (c.hear k n m)) := by
  refine ok_of_eng (pl := pl31) mixed (ΓH_sound E) Try.func31 rfl rfl (by kernel_rfl) (by simp [encC]) 100 (fun F hF => ?_)
  cases hv : valid k n m with
  | false =>
    simp only [Try.f31, pl31, ΓH, ΓC, onC, isC, noneC, sigC, decC, decC2, lix, mix, ivn, cellOf, lstN, lstF, nodupB, encC, word, c50, hv, ri, rb, renB, rens, ren, renEnts, sig, subH, updH, eng, litSt, srunA_nil, srunA_b, stepR, contB_mk, r0, regC, sop, unw, strip, sev, tg, tset, tput, undefs, needs, opNeeds, selC, sLoad, sStore, sNew, sAlloc, sBox, sFill, sBuild, sCall, sUn, cellsAt, hget, hset, hd1, vcells, one, splice, holeAt, idxAt, pushAt, nth, List.length_cons, List.length_nil, List.cons_append, List.nil_append, List.append_nil, List.map_cons, List.map_nil, List.take_succ_cons, List.take_zero, List.take_nil, List.drop_succ_cons, List.drop_zero, List.drop_nil, List.all_cons, List.all_nil, List.contains_cons, List.contains_nil, List.getElem?_cons_zero, List.getElem?_cons_succ, true_and, and_self, eq_self, Bool.not_true, Bool.not_false, Bool.or_false, Bool.and_self, Nat.zero_add, Nat.add_zero, Nat.le_refl, Option.getD_some, Value.oneCell', Nat.reduceAdd, Nat.reduceSub, Nat.reduceLT, Nat.reduceBEq, tk41, ts41, ta41, tz41, tpl41]
    exact hF _ _ _ ⟨trivial, by simp only [Try.f31, encC, Cen.says, Cen.err, Cen.hear, Cen.reply, word, hv, ri, rb, retP, sResults, sRes1, resK, retV, vwk, vwks, vwk1, hwk, bwk, sc, scs, scEnts, tg, sLoad, cellsAt, hget, List.length_cons, List.length_nil, List.take_succ_cons, List.take_nil, List.drop_zero, and_self, implies_true, eq_self, Bool.false_eq_true, Bool.false_and, Bool.and_self, decide_true, Nat.zero_add, Nat.le_refl, ↓reduceIte, Nat.reduceAdd, Nat.reduceLT, tk41, ts41, ta41]⟩
  | true =>
    cases hn : decide (c.n ≤ n) with
    | true =>
      simp only [Try.f31, pl31, ΓH, ΓC, onC, isC, noneC, sigC, decC, decC2, lix, mix, ivn, cellOf, lstN, lstF, nodupB, encC, word, c50, hv, hn, ri, rb, renB, rens, ren, renEnts, sig, subH, updH, eng, litSt, srunA_nil, srunA_b, stepR, contB_mk, r0, regC, sop, unw, strip, sev, tg, tset, tput, undefs, needs, opNeeds, sBin, ibin, shiftOp, gdst, onth, selC, sLoad, sStore, sNil, sField, sLen, sNew, sAlloc, sBox, sFill, sBuild, sCall, sBuiltin, sUn, cellsAt, hget, hset, hd1, vcells, one, splice, holeAt, idxAt, pushAt, nth, drawSt, preL, chkL, stp, nxtB_mk, pref_0, pref_b, allocOp, holes, List.length_cons, List.length_nil, List.cons_append, List.nil_append, List.append_nil, List.map_cons, List.map_nil, List.take_succ_cons, List.take_zero, List.take_nil, List.drop_succ_cons, List.drop_zero, List.drop_nil, List.all_cons, List.all_nil, List.contains_cons, List.contains_nil, List.getElem?_cons_zero, List.getElem?_cons_succ, true_and, and_self, or_true, not_false_eq_true, eq_self, ne_eq, Bool.false_eq_true, Bool.not_true, Bool.not_false, Bool.or_false, Bool.and_self, Nat.zero_add, Nat.add_zero, Nat.le_refl, Option.getD_some, reduceCtorEq, Value.oneCell', Nat.reduceAdd, Nat.reduceSub, Nat.reduceLT, Nat.reduceLeDiff, Nat.reduceBEq, tk3, ta3, tk41, ts41, ta41, tz41, tf41_1, tpl41, tk73, ta73, te73, tf90_5]
      exact hF _ _ _ ⟨trivial, by simp only [Try.f31, encC, Cen.says, Cen.err, Cen.hear, Cen.reply, word, hv, hn, ri, rb, retP, sResults, sRes1, resK, retV, vwk, vwks, vwk1, hwk, bwk, sc, scs, scEnts, tg, sLoad, cellsAt, hget, List.length_cons, List.length_nil, List.take_succ_cons, List.take_nil, List.drop_zero, and_self, implies_true, eq_self, Bool.false_eq_true, Bool.not_true, Bool.false_and, Bool.and_false, Bool.and_self, decide_true, Nat.zero_add, Nat.le_refl, ↓reduceIte, Nat.reduceAdd, Nat.reduceLT, tk41, ts41, ta41]⟩
    | false =>
      have h0 : 0 ≤ n := by simp [valid] at hv; omega
      have h1 : n < c.n := by simp at hn; omega
      cases hk : decide (k = 1) with
      | true =>
        simp only [Try.f31, pl31, ΓH, ΓC, onC, isC, noneC, inC, sigC, decC, decC2, lix, mix, ivn, cellOf, lstN, lstF, nodupB, encC, word, c50, hv, hn, hk, h0, h1, Cen.grants, ri, rb, renB, rens, ren, renEnts, sig, subH, updH, eng, litSt, srunA_nil, srunA_b, stepR, contB_mk, r0, regC, sop, unw, strip, sev, tg, tset, tput, undefs, needs, opNeeds, sBin, ibin, shiftOp, gdst, onth, selC, sLoad, sStore, sNil, sExtract, sField, sLen, sNew, sAlloc, sBox, sLookup, sCall, sBuiltin, sUn, cellsAt, hget, hset, hd1, vcells, one, splice, holeAt, idxAt, pushAt, hasKey, findK, drawSt, preL, chkL, stp, nxtB_mk, pref_0, pref_b, allocOp, holes, List.length_cons, List.length_nil, List.cons_append, List.nil_append, List.append_nil, List.map_cons, List.map_nil, List.take_succ_cons, List.take_zero, List.take_nil, List.drop_succ_cons, List.drop_zero, List.drop_nil, List.all_cons, List.all_nil, List.contains_cons, List.contains_nil, List.getElem?_cons_zero, List.getElem?_cons_succ, true_and, and_self, or_true, not_false_eq_true, eq_self, ne_eq, Bool.false_eq_true, Bool.not_true, Bool.not_false, Bool.true_or, Bool.or_false, Bool.and_self, Nat.zero_add, Nat.add_zero, Nat.le_refl, Option.getD_some, reduceCtorEq, Value.oneCell', Nat.reduceAdd, Nat.reduceSub, Nat.reduceLT, Nat.reduceLeDiff, Nat.reduceBEq, tk3, ta3, ti3, tk41, ts41, ta41, tz41, tf41_0, tf41_1, tk73, ta73, te73, tk88, ta88, tm88, tf90_5, tf90_6, tv99]
        exact hF _ _ _ ⟨trivial, by simp only [Try.f31, encC, Cen.says, Cen.err, Cen.hear, Cen.reply, word, hv, hn, hk, ri, rb, retP, sResults, sRes1, resK, retV, vwk, vwks, vwk1, hwk, bwk, sc, scs, scEnts, tg, sLoad, cellsAt, hget, List.length_cons, List.length_nil, List.take_succ_cons, List.take_nil, List.drop_zero, and_self, implies_true, eq_self, Bool.false_eq_true, Bool.not_false, Bool.true_and, Bool.and_self, decide_true, Nat.zero_add, Nat.le_refl, ↓reduceIte, Nat.reduceAdd, Nat.reduceLT, tk41, ts41, ta41]⟩
      | false =>
        cases hk3 : decide (k = 3) with
        | true =>
          simp only [Try.f31, pl31, ΓH, ΓC, onC, isC, noneC, inC, sigC, decC, decC2, lix, mix, ivn, cellOf, lstN, lstF, nodupB, encC, word, c50, hv, hn, hk, hk3, h0, h1, ri, rb, renB, rens, ren, renEnts, sig, subH, updH, eng, litSt, srunA_nil, srunA_b, stepR, contB_mk, r0, regC, sop, unw, strip, sev, tg, tset, tput, undefs, needs, opNeeds, sBin, ibin, shiftOp, gdst, onth, selC, sLoad, sStore, sNil, sExtract, sField, sLen, sNew, sAlloc, sBox, sLookup, sCall, sBuiltin, sUn, cellsAt, hget, hset, hd1, vcells, one, splice, holeAt, idxAt, pushAt, hasKey, findK, drawSt, preL, chkL, stp, nxtB_mk, pref_0, pref_b, allocOp, holes, List.length_cons, List.length_nil, List.cons_append, List.nil_append, List.append_nil, List.map_cons, List.map_nil, List.take_succ_cons, List.take_zero, List.take_nil, List.drop_succ_cons, List.drop_zero, List.drop_nil, List.all_cons, List.all_nil, List.contains_cons, List.contains_nil, List.getElem?_cons_zero, List.getElem?_cons_succ, true_and, and_self, or_true, not_false_eq_true, eq_self, ne_eq, Bool.false_eq_true, Bool.not_true, Bool.not_false, Bool.or_true, Bool.or_false, Bool.and_self, Nat.zero_add, Nat.add_zero, Nat.le_refl, Option.getD_some, reduceCtorEq, Value.oneCell', Nat.reduceAdd, Nat.reduceSub, Nat.reduceLT, Nat.reduceLeDiff, Nat.reduceBEq, tk3, ta3, ti3, tk41, ts41, ta41, tz41, tf41_0, tf41_1, tk73, ta73, te73, tk88, ta88, tm88, tf90_5, tf90_6, tv99]
          exact hF _ _ _ ⟨trivial, by simp only [Try.f31, encC, Cen.says, Cen.err, Cen.hear, Cen.reply, word, hv, hn, hk, hk3, ri, rb, retP, sResults, sRes1, resK, retV, vwk, vwks, vwk1, hwk, bwk, sc, scs, scEnts, tg, sLoad, cellsAt, hget, List.length_cons, List.length_nil, List.take_succ_cons, List.take_nil, List.drop_zero, and_self, implies_true, eq_self, Bool.false_eq_true, Bool.not_false, Bool.false_and, Bool.and_false, Bool.and_self, decide_true, Nat.zero_add, Nat.le_refl, ↓reduceIte, Nat.reduceAdd, Nat.reduceLT, tk41, ts41, ta41]⟩
        | false =>
          simp only [Try.f31, pl31, ΓH, ΓC, onC, isC, noneC, sigC, decC, decC2, lix, mix, ivn, cellOf, lstN, lstF, nodupB, encC, word, c50, hv, hn, hk, hk3, ri, rb, renB, rens, ren, renEnts, sig, subH, updH, eng, litSt, srunA_nil, srunA_b, stepR, contB_mk, r0, regC, sop, unw, strip, sev, tg, tset, tput, undefs, needs, opNeeds, sBin, ibin, shiftOp, gdst, onth, selC, sLoad, sStore, sNil, sExtract, sField, sLen, sNew, sAlloc, sBox, sLookup, sCall, sBuiltin, sUn, cellsAt, hget, hset, hd1, vcells, one, splice, holeAt, idxAt, pushAt, hasKey, findK, drawSt, preL, chkL, stp, nxtB_mk, pref_0, pref_b, allocOp, holes, List.length_cons, List.length_nil, List.cons_append, List.nil_append, List.append_nil, List.map_cons, List.map_nil, List.take_succ_cons, List.take_zero, List.take_nil, List.drop_succ_cons, List.drop_zero, List.drop_nil, List.all_cons, List.all_nil, List.contains_cons, List.contains_nil, List.getElem?_cons_zero, List.getElem?_cons_succ, true_and, and_self, or_true, not_false_eq_true, eq_self, ne_eq, Bool.false_eq_true, Bool.not_true, Bool.not_false, Bool.or_false, Bool.and_self, Nat.zero_add, Nat.add_zero, Nat.le_refl, Option.getD_some, reduceCtorEq, Value.oneCell', Nat.reduceAdd, Nat.reduceSub, Nat.reduceLT, Nat.reduceLeDiff, Nat.reduceBEq, tk3, ta3, ti3, tk41, ts41, ta41, tz41, tf41_0, tf41_1, tk73, ta73, te73, tk88, ta88, tm88, tf90_5, tf90_6, tv99]
          exact hF _ _ _ ⟨trivial, by simp only [Try.f31, encC, Cen.says, Cen.err, Cen.hear, Cen.reply, word, hv, hn, hk, hk3, ri, rb, retP, sResults, sRes1, resK, retV, vwk, vwks, vwk1, hwk, bwk, sc, scs, scEnts, tg, sLoad, cellsAt, hget, List.length_cons, List.length_nil, List.take_succ_cons, List.take_nil, List.drop_zero, and_self, implies_true, eq_self, Bool.false_eq_true, Bool.not_false, Bool.false_and, Bool.and_false, Bool.and_self, decide_true, Nat.zero_add, Nat.le_refl, ↓reduceIte, Nat.reduceAdd, Nat.reduceLT, tk41, ts41, ta41]⟩

end Go.Proofs.Ytmnpnnegnlhemaa.Eng
namespace Go.Proofs.Ytmnpnnegnlhemaa.Eng
open Go

structure Nod where
  now : Int
  number : Int
  term : Int
  en : Int
  last : Int
  off : Nat
  len : Nat
  an : Nat → Int
  av : Nat → Int

def encN (x : Nod) : List AB :=
  [.cells [ri x.now, rb true, ri x.number, ri x.term, ri x.en, ri x.last, .lst 1 2 x.off x.len] 96,
   .lst (x.off + x.len) 2 (fun k => [ri (x.an k), ri (x.av k)]) 110]

def lof : SV → Nat
  | .lst _ _ o _ => o
  | _ => 0
def lln : SV → Nat
  | .lst _ _ _ n => n
  | _ => 0

def el0 : List SV → SV
  | s :: _ => s
  | _ => .junk
def el1 : List SV → SV
  | _ :: s :: _ => s
  | _ => .junk
def el2 : List SV → SV
  | _ :: _ :: s :: _ => s
  | _ => .junk

def sigN (H : List AB) (i : Nat) : List Nat := [i, lix (cellOf (hget H i) 6)]
def decN2 (A B : AB) : Nod :=
  { now := ivn (cellOf A 0), number := ivn (cellOf A 2), term := ivn (cellOf A 3), en := ivn (cellOf A 4), last := ivn (cellOf A 5), off := lof (cellOf A 6), len := lln (cellOf A 6),
    an := fun k => ivn (el0 (lstF B k)), av := fun k => ivn (el1 (lstF B k)) }
def decN (H : List AB) (i : Nat) : Nod := decN2 (hget H i) (hget H (lix (cellOf (hget H i) 6)))

theorem hwk_encN (x : Nod) : hwk (encN x).length (encN x) (encN x) := by
  simp only [encN, vwks, vwk1, hwk, bwk, sc, scs, List.length_cons, List.length_nil, and_self, implies_true, eq_self, Bool.and_self, decide_true, Nat.zero_add, Nat.le_refl, Nat.reduceAdd, Nat.reduceLT]

/-- A method of a node (called at a cell of it): what it does to the node, what the heap is then, and what it returns. -/
def onNat (_j : Nat) (f : Nod → SV × List AB) (pre : Nod → Prop) (H : List AB) (i : Nat) : Res :=
  ⟨(subH (sig (sigN H i) H.length) H (sigN H i) (encN (decN H i)) ∧ nodupB (sigN H i) = true) ∧ pre (decN H i), ren (sig (sigN H i) H.length) (f (decN H i)).1, updH (sig (sigN H i) H.length) H (sigN H i) (f (decN H i)).2⟩

theorem onNat_sound {E : Addr → Option Value} {fn : FuncId} {j : Nat} {args : List SV} {f : Nod → SV × List AB} {pre : Nod → Prop} {H : List AB} {i : Nat} (hok : ∀ x, pre x → Ok Try.prog E fn (.ptr 0 j :: args) (encN x) (f x).1 (f x).2)
    (ha : ∀ τ : Nat → Nat, rens τ args = args) (hs : scs 2 args = true) (h : (onNat j f pre H i).pre) : Ok Try.prog E fn (.ptr i j :: args) H (onNat j f pre H i).val (onNat j f pre H i).heap := by
  obtain ⟨⟨h1, h2⟩, h3⟩ := h
  have := (hok (decN H i) h3).frame H (sigN H i) h1 (nodupB_spec h2) (by simp only [scs, sc, encN, List.length_cons, List.length_nil, hs]; rfl) (hwk_encN _)
  simp only [rens, ren, ha] at this
  rwa [show sig (sigN H i) H.length 0 = i from rfl] at this

def allN (_ : Nod) : Prop := True

set_option maxRecDepth 100000 in
theorem ok48 (E : Addr → Option Value) (x : Nod) : Ok Try.prog E 48 [.ptr 0 0] (encN x) (rb true) (encN x) := by
  refine ok_of_eng (pl := pl0) mixed (Γ0_sound E) Try.func48 rfl rfl (by kernel_rfl) (by simp) 100 (fun F hF => ?_)
  simp only [Try.f48, encN, ri, rb, eng, litSt, pl0, srunA_nil, srunA_b, stepR, contB_mk, r0, r1, r2, regC, sop, unw, strip, sev, tg, tset, tput, undefs, needs, opNeeds, sBin, gb, gslot, gdst, onth, wants, sPick, sLoad, sNil, sField, cellsAt, hget, hd1, List.length_cons, List.length_nil, List.cons_append, List.nil_append, List.take_succ_cons, List.take_zero, List.drop_succ_cons, List.drop_zero, true_and, and_self, implies_true, not_false_eq_true, eq_self, ne_eq, Bool.true_eq_false, Bool.cond_true, Nat.zero_add, reduceCtorEq, ↓reduceIte, Nat.reduceAdd, Nat.reduceSub, Nat.reduceLeDiff, tk4, ta4, tp30, tf96_1]
  exact hF _ _ _ ⟨trivial, by simp only [Try.f48, encN, ri, rb, retP, sResults, sRes1, resK, retV, vwk, vwks, vwk1, hwk, bwk, sc, scs, tg, List.length_cons, List.length_nil, and_self, implies_true, eq_self, Bool.and_self, decide_true, Nat.zero_add, Nat.le_refl, Nat.reduceAdd, Nat.reduceLT]⟩

def Nod.tk (x : Nod) : Nod := { x with now := IntKind.i64.wrap (x.now + 1) }
set_option maxRecDepth 100000 in
theorem ok54N (E : Addr → Option Value) (x : Nod) : Ok Try.prog E 54 [.ptr 0 0] (encN x) (.tup []) (encN x.tk) := by
  refine ok_of_eng (pl := pl0) mixed (Γ0_sound E) Try.func54 rfl rfl (by kernel_rfl) (by simp [encN]) 100 (fun F hF => ?_)
  simp only [Try.f54, encN, ri, rb, eng, litSt, pl0, srunA_nil, srunA_b, stepR, contB_mk, r0, regC, sop, unw, strip, sev, tg, tset, tput, undefs, needs, opNeeds, sBin, ibin, shiftOp, sLoad, sStore, sNil, sField, cellsAt, hget, hset, hd1, vcells, one, splice, List.length_cons, List.length_nil, List.cons_append, List.nil_append, List.take_succ_cons, List.take_zero, List.drop_succ_cons, List.drop_zero, List.all_cons, List.all_nil, true_and, and_self, or_true, not_false_eq_true, eq_self, ne_eq, Bool.false_eq_true, Bool.and_self, Nat.zero_add, Nat.add_zero, reduceCtorEq, Value.oneCell', Nat.reduceAdd, Nat.reduceSub, Nat.reduceLeDiff, tk3, ts3, ta3, tf85_0]
  exact hF _ _ _ ⟨trivial, by simp only [Try.f54, encN, Nod.tk, ri, rb, retP, sResults, retV, vwk, vwks, vwk1, hwk, bwk, sc, scs, List.length_cons, List.length_nil, and_self, implies_true, eq_self, Bool.and_self, decide_true, Nat.zero_add, Nat.le_refl, Nat.reduceAdd, Nat.reduceLT]⟩

def Nod.fall (x : Nod) : Nod := { x with en := x.now, off := 0, len := 0 }
def pl53 : Nat → Plan
  | _ => []
set_option maxRecDepth 100000 in
theorem ok53 (E : Addr → Option Value) (x : Nod) : Ok Try.prog E 53 [.ptr 0 0] (encN x) (.tup []) (encN x.fall) := by
  refine ok_of_eng (pl := pl53) mixed (Γ0_sound E) Try.func53 rfl rfl (by kernel_rfl) (by simp [encN]) 100 (fun F hF => ?_)
  simp only [Try.f53, pl53, encN, ri, rb, eng, litSt, srunA_nil, srunA_b, stepR, contB_mk, r0, regC, sop, unw, strip, sev, tg, tset, tput, undefs, needs, opNeeds, sLoad, sStore, sNil, sField, sFill, sBuild, cellsAt, hget, hset, hd1, vcells, one, splice, nth, List.length_cons, List.length_nil, List.cons_append, List.nil_append, List.append_nil, List.map_cons, List.map_nil, List.take_succ_cons, List.take_zero, List.drop_succ_cons, List.drop_zero, List.drop_nil, List.all_cons, List.all_nil, true_and, and_self, not_false_eq_true, eq_self, ne_eq, Bool.and_self, Nat.zero_add, Nat.add_zero, Nat.le_refl, reduceCtorEq, Value.oneCell', Nat.reduceAdd, Nat.reduceSub, Nat.reduceLeDiff, tk3, ts3, ta3, tf85_0, tk94, ts94, tz94, tpl94, tf96_0, tf96_4, tf96_6]
  exact hF _ _ _ ⟨trivial, by simp only [Try.f53, encN, Nod.fall, ri, rb, retP, sResults, retV, vwk, vwks, vwk1, hwk, bwk, sc, scs, List.length_cons, List.length_nil, true_and, and_true, and_self, implies_true, eq_self, Bool.and_self, decide_true, Nat.zero_add, Nat.add_zero, Nat.le_refl, Nat.reduceAdd, Nat.reduceLT]; simp⟩

def Nod.room (x : Nod) : Prop := x.len ≤ 1000000
/-- A node whose asks lie in a block behind. -/
def encN2 (x : Nod) : List AB :=
  [.cells [ri x.now, rb true, ri x.number, ri x.term, ri x.en, ri x.last, .lst 2 2 x.off x.len] 96, .dead,
   .lst (x.off + x.len) 2 (fun k => [ri (x.an k), ri (x.av k)]) 110]
def Nod.add (x : Nod) (n v : Int) : Nod := { x with off := 0, len := x.len + 1, an := fun k => if k < x.len then x.an (x.off + k) else n, av := fun k => if k < x.len then x.av (x.off + k) else v }
def pl49 : Nat → Plan
  | _ => []
set_option maxRecDepth 100000 in
theorem ok49 (E : Addr → Option Value) (x : Nod) (n v : Int) (hx : x.room) : Ok Try.prog E 49 [.ptr 0 6, ri n, ri v] (encN x) (.tup []) (encN2 (x.add n v)) := by
  unfold Nod.room at hx
  refine ok_of_engR (pl := pl49) mixed (Γ0_sound E) Try.func49 rfl rfl (by kernel_rfl) (by simp [encN, encN2]) 100 (fun F _ hG => ?_)
  simp only [Try.f49, pl49, encN, ri, rb, eng, litSt, srunA_nil, srunA_b, stepR, contB_mk, r0, regC, sop, unw, strip, sev, tg, tset, tput, undefs, needs, opNeeds, sLoad, sStore, sNil, sField, sFill, sBuild, sLit, sApp, sBuiltin, cellsAt, hget, hset, hd1, vcells, one, whole, splice, holeAt, idxAt, pushAt, nth, zrep, tgt, src, allK, List.length_cons, List.length_nil, List.cons_append, List.nil_append, List.append_nil, List.map_cons, List.map_nil, List.take_succ_cons, List.take_zero, List.take_nil, List.drop_succ_cons, List.drop_zero, List.drop_nil, List.all_cons, List.all_nil, true_and, and_true, and_self, not_false_eq_true, eq_self, ne_eq, Bool.and_self, decide_true, Nat.zero_add, Nat.add_zero, Nat.zero_mul, Nat.one_mul, Nat.le_refl, reduceCtorEq, Value.oneCell', Nat.reduceAdd, Nat.reduceSub, Nat.reduceLT, Nat.reduceLeDiff, tk92, ts92, ta92, te92, tf94_0, tk110, ts110, tb110, tz110, tpl110]
  refine ⟨⟨by omega, by omega⟩, hG [0, 1, 3] _ _ _ ⟨trivial, rfl, ?_⟩⟩
  simp only [Try.f49, encN, encN2, Nod.add, ri, rb, renR, renJ, renJs, mvH, hgetO, memB, posG, jp, renJB, retP, sResults, retV, vwk, vwks, vwk1, hwk, bwk, sc, scs, app, List.length_cons, List.length_nil, true_and, and_true, and_self, implies_true, eq_self, Bool.and_self, decide_true, decide_false, Nat.zero_add, Nat.le_refl, reduceCtorEq, Nat.reduceAdd, Nat.reduceLT, Nat.reduceLeDiff, Nat.reduceEqDiff]
  intro k hk
  by_cases h : k < x.len
  · simp only [h, if_true, renJs, renJ]
  · have : k - x.len = 0 := by omega
    simp only [h, this, List.take_succ_cons, List.take_nil, List.drop_zero, eq_self, Nat.zero_mul, ↓reduceIte, renJs, renJ]

/-! the node's own calls -/
def ΓN : Con := fun f args H => match f with
  | .func 48 => match args with
    | [.ptr i 0] => onNat 0 (fun x => (.raw (.bool true), encN x)) allN H i
    | _ => no
  | .func 49 => match args with
    | [.ptr i 6, .raw (.int .i64 n), .raw (.int .i64 v)] => onNat 6 (fun x => (.tup [], encN2 (x.add n v))) Nod.room H i
    | _ => no
  | .func 53 => match args with
    | [.ptr i 0] => onNat 0 (fun x => (.tup [], encN x.fall)) allN H i
    | _ => no
  | .func 54 => match args with
    | [.ptr i 0] => onNat 0 (fun x => (.tup [], encN x.tk)) allN H i
    | _ => no
  | _ => no
theorem ΓN_sound (E : Addr → Option Value) : Con.Sound Try.prog E ΓN := by
  intro f args H h
  unfold ΓN at h ⊢
  split at h
  · split at h
    · exact onNat_sound (args := []) (fun x _ => ok48 E x) (fun _ => rfl) rfl h
    · exact h.elim
  · split at h
    · rename_i i n v
      exact onNat_sound (args := [ri n, ri v]) (fun x hx => ok49 E x n v hx) (fun _ => rfl) rfl h
    · exact h.elim
  · split at h
    · exact onNat_sound (args := []) (fun x _ => ok53 E x) (fun _ => rfl) rfl h
    · exact h.elim
  · split at h
    · exact onNat_sound (args := []) (fun x _ => ok54N E x) (fun _ => rfl) rfl h
    · exact h.elim
  · exact h.elim

def pl26 : Nat → Plan
  | _ => []
set_option maxRecDepth 100000 in
theorem ok26 (E : Addr → Option Value) (x : Nod) : Ok Try.prog E 26 [.ptr 0 0] (encN x) (.tup [ri x.now, ri x.en]) (encN x) := by
  refine ok_of_eng (pl := pl26) mixed (ΓN_sound E) Try.func26 rfl rfl (by kernel_rfl) (by simp) 100 (fun F hF => ?_)
  simp only [Try.f26, pl26, ΓN, onNat, allN, sigN, ren, rens, decN, decN2, lix, lof, lln, el0, el1, ivn, cellOf, lstF, nodupB, encN, ri, rb, renB, rens, ren, sig, subH, updH, eng, litSt, srunA_nil, srunA_b, stepR, contB_mk, r0, regC, sop, unw, strip, sev, tg, tset, tput, undefs, needs, opNeeds, gdst, onth, selC, sLoad, sNil, sField, sCall, sUn, cellsAt, hget, hset, hd1, drawSt, preL, chkL, stp, nxtB_mk, pref_0, pref_b, allocOp, holes, List.length_cons, List.length_nil, List.cons_append, List.nil_append, List.append_nil, List.map_cons, List.map_nil, List.take_succ_cons, List.take_zero, List.drop_succ_cons, List.drop_zero, List.contains_cons, List.contains_nil, List.getElem?_cons_zero, List.getElem?_cons_succ, true_and, and_self, not_false_eq_true, eq_self, ne_eq, Bool.not_true, Bool.not_false, Bool.or_false, Bool.and_self, Nat.zero_add, Nat.add_zero, Option.getD_some, reduceCtorEq, Nat.reduceAdd, Nat.reduceSub, Nat.reduceLT, Nat.reduceLeDiff, Nat.reduceBEq, tk3, ta3, tf85_0, tf96_0, tf96_4]
  exact hF _ _ _ ⟨trivial, by simp only [Try.f26, encN, ri, rb, retP, sResults, sRes1, resK, retV, vwk, vwks, vwk1, hwk, bwk, sc, scs, tg, List.length_cons, List.length_nil, and_self, implies_true, eq_self, Bool.and_self, decide_true, Nat.zero_add, Nat.le_refl, Nat.reduceAdd, Nat.reduceLT]⟩

def pl27 : Nat → Plan
  | _ => []
set_option maxRecDepth 100000 in
theorem ok27 (E : Addr → Option Value) (x : Nod) : Ok Try.prog E 27 [.ptr 0 0] (encN x) (rb (decide (x.now < x.en))) (encN x) := by
  refine ok_of_eng (pl := pl27) mixed (ΓN_sound E) Try.func27 rfl rfl (by kernel_rfl) (by simp) 100 (fun F hF => ?_)
  simp only [Try.f27, pl27, ΓN, onNat, allN, sigN, ren, rens, decN, decN2, lix, lof, lln, el0, el1, ivn, cellOf, lstF, nodupB, encN, ri, rb, renB, rens, ren, sig, subH, updH, eng, litSt, srunA_nil, srunA_b, stepR, contB_mk, r0, r1, r2, regC, sop, unw, strip, sev, tg, tset, tput, undefs, needs, opNeeds, sBin, ibin, shiftOp, gb, gslot, gdst, onth, wants, sPick, sLoad, sNil, sField, sCall, cellsAt, hget, hset, hd1, drawSt, preL, chkL, stp, nxtB_mk, pref_0, pref_b, allocOp, holes, List.length_cons, List.length_nil, List.cons_append, List.nil_append, List.append_nil, List.map_cons, List.map_nil, List.take_succ_cons, List.take_zero, List.drop_succ_cons, List.drop_zero, List.contains_cons, List.contains_nil, List.getElem?_cons_zero, List.getElem?_cons_succ, true_and, and_self, or_true, implies_true, not_false_eq_true, eq_self, ne_eq, Bool.true_eq_false, Bool.false_eq_true, Bool.not_false, Bool.or_false, Bool.and_self, Bool.cond_true, Nat.zero_add, Nat.add_zero, Option.getD_some, reduceCtorEq, ↓reduceIte, Nat.reduceAdd, Nat.reduceSub, Nat.reduceLT, Nat.reduceLeDiff, Nat.reduceBEq, tk3, ta3, tf85_0, tf96_0, tf96_4]
  exact hF _ _ _ ⟨trivial, by simp only [Try.f27, encN, ri, rb, retP, sResults, sRes1, resK, retV, vwk, vwks, vwk1, hwk, bwk, sc, scs, tg, List.length_cons, List.length_nil, and_self, implies_true, eq_self, Bool.and_self, decide_true, Nat.zero_add, Nat.le_refl, Nat.reduceAdd, Nat.reduceLT]⟩

def pl21 : Nat → Plan
  | _ => []
set_option maxRecDepth 100000 in
theorem ok21 (E : Addr → Option Value) (x : Nod) : Ok Try.prog E 21 [.ptr 0 0] (encN x) (ri 0) (encN x.fall) := by
  refine ok_of_eng (pl := pl21) mixed (ΓN_sound E) Try.func21 rfl rfl (by kernel_rfl) (by simp [encN]) 100 (fun F hF => ?_)
  simp only [Try.f21, pl21, ΓN, onNat, allN, sigN, ren, rens, decN, decN2, lix, lof, lln, el0, el1, ivn, cellOf, lstF, nodupB, encN, Nod.fall, ri, rb, renB, rens, ren, sig, subH, updH, eng, litSt, srunA_nil, srunA_b, stepR, contB_mk, r0, regC, sop, unw, strip, sev, tg, tset, tput, undefs, needs, opNeeds, selC, sCall, sUn, hget, hset, List.length_cons, List.length_nil, List.cons_append, List.nil_append, List.append_nil, List.map_cons, List.map_nil, List.contains_cons, List.contains_nil, List.getElem?_cons_zero, List.getElem?_cons_succ, true_and, and_self, eq_self, Bool.not_true, Bool.not_false, Bool.or_false, Bool.and_self, Nat.zero_add, Nat.add_zero, Option.getD_some, Nat.reduceAdd, Nat.reduceSub, Nat.reduceLT, Nat.reduceBEq, ]
  exact hF _ _ _ ⟨trivial, by simp only [Try.f21, encN, Nod.fall, ri, rb, retP, sResults, sRes1, resK, retV, vwk, vwks, vwk1, hwk, bwk, sc, scs, tg, List.length_cons, List.length_nil, and_self, implies_true, eq_self, Bool.and_self, decide_true, Nat.zero_add, Nat.add_zero, Nat.le_refl, Nat.reduceAdd, Nat.reduceLT, ]⟩

def pl25 : Nat → Plan
  | _ => []
set_option maxRecDepth 100000 in
theorem ok25 (E : Addr → Option Value) (x : Nod) : Ok Try.prog E 25 [.ptr 0 0] (encN x) (ri 0) (encN x.tk) := by
  refine ok_of_eng (pl := pl25) mixed (ΓN_sound E) Try.func25 rfl rfl (by kernel_rfl) (by simp [encN]) 100 (fun F hF => ?_)
  simp only [Try.f25, pl25, ΓN, onNat, allN, sigN, ren, rens, decN, decN2, lix, lof, lln, el0, el1, ivn, cellOf, lstF, nodupB, encN, Nod.tk, ri, rb, renB, rens, ren, sig, subH, updH, eng, litSt, srunA_nil, srunA_b, stepR, contB_mk, r0, regC, sop, unw, strip, sev, tg, tset, tput, undefs, needs, opNeeds, selC, sNil, sField, sCall, sUn, hget, hset, List.length_cons, List.length_nil, List.cons_append, List.nil_append, List.append_nil, List.map_cons, List.map_nil, List.contains_cons, List.contains_nil, List.getElem?_cons_zero, List.getElem?_cons_succ, true_and, and_self, not_false_eq_true, eq_self, ne_eq, Bool.not_true, Bool.not_false, Bool.or_false, Bool.and_self, Nat.zero_add, Nat.add_zero, Option.getD_some, reduceCtorEq, Nat.reduceAdd, Nat.reduceSub, Nat.reduceLT, Nat.reduceBEq, tf96_0]
  exact hF _ _ _ ⟨trivial, by simp only [Try.f25, encN, Nod.tk, ri, rb, retP, sResults, sRes1, resK, retV, vwk, vwks, vwk1, hwk, bwk, sc, scs, tg, List.length_cons, List.length_nil, and_self, implies_true, eq_self, Bool.and_self, decide_true, Nat.zero_add, Nat.le_refl, Nat.reduceAdd, Nat.reduceLT]⟩

def pl23 : Nat → Plan
  | _ => []
def Nod.ret (x : Nod) : Nod := if decide (x.last = 0) = true then x else x.fall
def Nod.retW (x : Nod) : SV := word (if decide (x.last = 0) = true then 0 else 3) (if decide (x.last = 0) = true then 0 else x.number) (if decide (x.last = 0) = true then 0 else x.last)
set_option maxRecDepth 100000 in
theorem ok23 (E : Addr → Option Value) (x : Nod) : Ok Try.prog E 23 [.ptr 0 0] (encN x) (.tup [x.retW, ri (if decide (x.last = 0) = true then 9 else 0)]) (encN x.ret) := by
  refine ok_of_eng (pl := pl23) mixed (ΓN_sound E) Try.func23 rfl rfl (by kernel_rfl) (by simp [encN]) 100 (fun F hF => ?_)
  simp only [Try.f23, pl23, ΓN, onNat, allN, sigN, ren, rens, decN, decN2, lix, lof, lln, el0, el1, ivn, cellOf, lstF, nodupB, encN, Nod.fall, ri, rb, renB, rens, ren, sig, subH, updH, eng, litSt, srunA_nil, srunA_b, stepR, contB_mk, r0, regC, sop, unw, strip, sev, tg, tset, tput, undefs, needs, opNeeds, sBin, ibin, shiftOp, gdst, onth, selC, sLoad, sStore, sNil, sField, sNew, sAlloc, sFill, sBuild, sCall, sUn, cellsAt, hget, hset, hd1, vcells, one, whole, splice, holeAt, idxAt, pushAt, nth, drawSt, preL, chkL, stp, nxtB_mk, pref_0, pref_b, allocOp, holes, List.length_cons, List.length_nil, List.cons_append, List.nil_append, List.append_nil, List.map_cons, List.map_nil, List.take_succ_cons, List.take_zero, List.drop_succ_cons, List.drop_zero, List.drop_nil, List.all_cons, List.all_nil, List.contains_cons, List.contains_nil, List.getElem?_cons_zero, List.getElem?_cons_succ, true_and, and_self, or_true, not_false_eq_true, eq_self, ne_eq, Bool.false_eq_true, Bool.not_true, Bool.not_false, Bool.or_false, Bool.and_self, Nat.zero_add, Nat.add_zero, Nat.le_refl, Option.getD_some, reduceCtorEq, Value.oneCell', Nat.reduceAdd, Nat.reduceSub, Nat.reduceLT, Nat.reduceLeDiff, Nat.reduceBEq, tk3, ta3, tk41, ts41, tz41, tpl41, tf96_2, tf96_5]
  cases h : decide (x.last = 0) <;> simp only [] <;>
    exact hF _ _ _ ⟨trivial, by simp only [Try.f23, encN, Nod.fall, Nod.ret, Nod.retW, word, h, ri, rb, retP, sResults, sRes1, resK, retV, vwk, vwks, vwk1, hwk, bwk, sc, scs, tg, sLoad, cellsAt, hget, List.length_cons, List.length_nil, List.take_succ_cons, List.take_nil, List.drop_zero, and_self, implies_true, eq_self, Bool.false_eq_true, Bool.and_self, decide_true, Nat.zero_add, Nat.add_zero, Nat.le_refl, ↓reduceIte, Nat.reduceAdd, Nat.reduceLT, tk41, ts41, ta41]⟩

def pl17 : Nat → Plan
  | _ => []
def Nod.full (x : Nod) : Bool := decide (x.last = 1099511627776)
def Nod.ask (x : Nod) : Nod := if x.full = true then x else { x.add (IntKind.i64.wrap (x.last + 1)) x.now with last := IntKind.i64.wrap (x.last + 1) }
def Nod.askW (x : Nod) : SV := word (if x.full = true then 0 else 1) (if x.full = true then 0 else x.number) (if x.full = true then 0 else IntKind.i64.wrap (x.last + 1))
set_option maxRecDepth 100000 in
theorem ok17 (E : Addr → Option Value) (x : Nod) (hx : x.room) : Ok Try.prog E 17 [.ptr 0 0] (encN x) (.tup [x.askW, ri (if x.full = true then 6 else 0)]) (encN2 x.ask) := by
  have hx' : x.len ≤ 1000000 := hx
  refine ok_of_engR (pl := pl17) mixed (ΓN_sound E) Try.func17 rfl rfl (by kernel_rfl) (by simp [encN, encN2]) 100 (fun F hF hG => ?_)
  simp only [Try.f17, pl17, ΓN, onNat, allN, sigN, ren, rens, decN, decN2, lix, lof, lln, el0, el1, ivn, cellOf, lstF, nodupB, encN, encN2, Nod.add, Nod.room, hx', ri, rb, renB, rens, ren, sig, subH, updH, eng, litSt, srunA_nil, srunA_b, stepR, contB_mk, r0, regC, sop, unw, strip, sev, tg, tset, tput, undefs, needs, opNeeds, sBin, ibin, shiftOp, gdst, onth, selC, sLoad, sStore, sNil, sField, sNew, sAlloc, sFill, sBuild, sCall, sUn, cellsAt, hget, hset, hd1, vcells, one, whole, splice, holeAt, idxAt, pushAt, nth, drawSt, preL, chkL, stp, nxtB_mk, pref_0, pref_b, allocOp, holes, List.length_cons, List.length_nil, List.cons_append, List.nil_append, List.append_nil, List.map_cons, List.map_nil, List.take_succ_cons, List.take_zero, List.drop_succ_cons, List.drop_zero, List.drop_nil, List.all_cons, List.all_nil, List.contains_cons, List.contains_nil, List.getElem?_cons_zero, List.getElem?_cons_succ, List.getElem?_nil, true_and, and_self, or_true, not_false_eq_true, eq_self, ne_eq, Bool.false_eq_true, Bool.not_true, Bool.not_false, Bool.or_false, Bool.and_self, Nat.zero_add, Nat.add_zero, Nat.le_refl, Option.getD_some, Option.getD_none, reduceCtorEq, Value.oneCell', Nat.reduceAdd, Nat.reduceSub, Nat.reduceLT, Nat.reduceLeDiff, Nat.reduceBEq, tk3, ts3, ta3, tk41, ts41, tz41, tpl41, tf85_0, tf96_0, tf96_2, tf96_5, tf96_6]
  cases h : decide (x.last = 1099511627776) with
  | true =>
    simp only []
    exact hG [0, 1, 1] _ _ _ ⟨trivial, rfl, by simp only [Try.f17, encN, encN2, Nod.ask, Nod.askW, Nod.full, word, h, ri, rb, renR, renJ, renJs, mvH, hgetO, memB, posG, jp, renJB, retP, sResults, sRes1, resK, retV, vwk, vwks, vwk1, hwk, bwk, sc, scs, tg, sLoad, cellsAt, hget, List.length_cons, List.length_nil, List.take_succ_cons, List.take_nil, List.drop_zero, and_self, implies_true, eq_self, Bool.and_self, decide_true, decide_false, Nat.zero_add, Nat.le_refl, reduceCtorEq, ↓reduceIte, Nat.reduceAdd, Nat.reduceLT, Nat.reduceLeDiff, tk41, ts41, ta41]⟩
  | false =>
    simp only []
    exact hG [0, 1, 3] _ _ _ ⟨trivial, rfl, by simp only [Try.f17, encN, encN2, Nod.ask, Nod.askW, Nod.full, Nod.add, word, h, ri, rb, renR, renJ, renJs, mvH, hgetO, memB, posG, jp, renJB, retP, sResults, sRes1, resK, retV, vwk, vwks, vwk1, hwk, bwk, sc, scs, tg, sLoad, cellsAt, hget, List.length_cons, List.length_nil, List.take_succ_cons, List.take_nil, List.drop_zero, and_self, implies_true, eq_self, Bool.false_eq_true, Bool.and_self, decide_true, decide_false, Nat.zero_add, Nat.le_refl, reduceCtorEq, ↓reduceIte, Nat.reduceAdd, Nat.reduceLT, Nat.reduceLeDiff, Nat.reduceEqDiff, tk41, ts41, ta41]⟩

end Go.Proofs.Ytmnpnnegnlhemaa.Eng
namespace Go.Proofs.Ytmnpnnegnlhemaa.Eng
open Go

/-- The first range over a function in a code. -/
def rfOf : Code → Option (Array Tmp × Code × Code)
  | .seq a b => match rfOf a with
    | some x => some x
    | none => rfOf b
  | .block _ c => rfOf c
  | .loop c => rfOf c
  | .cond _ a b => match rfOf a with
    | some x => some x
    | none => rfOf b
  | .rangeFunc _ ps a b => some (ps, a, b)
  | _ => none
def rfb (f : Func) : Array Tmp × Code × Code := match f.body with
  | some c => (rfOf c).getD (#[], .skip, .skip)
  | none => (#[], .skip, .skip)

def pl58 : Nat → Plan
  | _ => []
set_option maxRecDepth 100000 in
theorem ok58 (E : Addr → Option Value) (x : Nod) : Ok Try.prog E 58 [.ptr 0 6] (encN x) (.fn (.func 59) [] [.ptr 2 0]) (encN x ++ [.cells [.ptr 0 6] 108]) := by
  refine ok_of_eng (pl := pl58) mixed (Γ0_sound E) Try.func58 rfl rfl (by kernel_rfl) (by simp [encN]) 100 (fun F hF => ?_)
  simp only [Try.f58, pl58, encN, ri, rb, eng, litSt, srunA_nil, srunA_b, stepR, contB_mk, r0, regC, sop, unw, strip, sev, tg, tset, tput, undefs, needs, opNeeds, sBox, vcells, one, holeAt, idxAt, pushAt, List.length_cons, List.length_nil, List.cons_append, List.nil_append, List.map_cons, List.map_nil, List.all_cons, List.all_nil, true_and, and_self, eq_self, Bool.and_self, Nat.zero_add, Nat.reduceAdd, Nat.reduceSub]
  exact hF _ _ _ ⟨trivial, by simp only [Try.f58, encN, ri, rb, retP, sResults, sRes1, resK, retV, vwk, vwks, vwk1, hwk, bwk, sc, scs, tg, List.length_cons, List.length_nil, List.cons_append, List.nil_append, and_self, implies_true, eq_self, Bool.and_self, decide_true, Nat.zero_add, Nat.le_refl, Nat.reduceAdd, Nat.reduceLT, Nat.reduceLeDiff]⟩

def ΓA : Con := fun f args H => match f with
  | .func 58 => match args with
    | [.ptr i 6] => onNat 6 (fun x => (.fn (.func 59) [] [.ptr 2 0], encN x ++ [.cells [.ptr 0 6] 108])) allN H i
    | _ => no
  | _ => no
theorem ΓA_sound (E : Addr → Option Value) : Con.Sound Try.prog E ΓA := by
  intro f args H h
  unfold ΓA at h ⊢
  split at h
  · split at h
    · exact onNat_sound (args := []) (fun x _ => ok58 E x) (fun _ => rfl) rfl h
    · exact h.elim
  · exact h.elim

def pl51 : Nat → Plan
  | _ => []
def pl51y : Nat → Plan := pl51
def t51 (m : Int) : List SV := [.ptr 0 6, ri m, .ptr 2 0, .ptr 3 0, .ptr 4 0, .ptr 5 0, .ptr 6 0, .raw undef, .raw undef, .ptr 0 6, .fn (.func 59) [] [.ptr 7 0]] ++ undefs 18
def h51 (x : Nod) (m : Int) (l : Nat) (r : Loop) (k : Int) : List AB :=
  [.cells [ri x.now, rb true, ri x.number, ri x.term, ri x.en, ri x.last, .lst 1 2 x.off x.len] 96,
   .lst (x.off + x.len) 2 (fun k => [ri (x.an k), ri (x.av k)]) 110,
   .cells [.ptr 0 6] 108, .cells [ri m] 3, .cells [ri 0] 3, .cells [rb false] 4, .cells [ri k] 3, .cells [.ptr 0 6] 108, .lrec l (t51 m) r]
def g51 (x : Nod) (m : Int) (l : Nat) (r : Loop) (k : Nat) (v : Int) : List AB :=
  [.cells [ri x.now, rb true, ri x.number, ri x.term, ri x.en, ri x.last, .lst 1 2 (x.off + k) (x.len - k)] 96,
   .lst (x.off + x.len) 2 (fun k => [ri (x.an k), ri (x.av k)]) 110,
   .cells [.ptr 0 6] 108, .cells [ri m] 3, .cells [ri v] 3, .cells [rb true] 4, .cells [ri k] 3, .cells [.ptr 0 6] 108, .lrec l (t51 m) (rto r .done (some .ret))]

theorem wrap1 {k : Int} (h0 : 0 ≤ k) (h1 : k ≤ 1000000) : IntKind.i64.wrap (k + 1) = k + 1 := w64 (by omega) (by omega)

set_option maxRecDepth 100000 in
theorem y51 (E : Addr → Option Value) (x : Nod) (m : Int) (l : Nat) (r : Loop) (k : Int) (n v : Int) (hx : x.room) (h0 : 0 ≤ k) (h1 : k < x.len) (hs : r.state = .ready) (hp : r.pending = none) (hps : r.params.toList = [11, 12]) (has : r.assign = (rfb Try.f51).2.1) (hb : r.body = (rfb Try.f51).2.2) :
    YOk Try.prog E l [ri n, ri v] (h51 x m l r k ++ [.cells [ri n, ri v] 110]) (rb (!decide (n = m)))
      (match decide (n = m) with | true => g51 x m l r (k.toNat + 1) v ++ [.cells [ri n, ri v] 110] | false => h51 x m l r (k + 1) ++ [.cells [ri n, ri v] 110]) := by
  have hx' : x.len ≤ 1000000 := hx
  have hw := wrap1 h0 (by omega)
  have hk1 : 0 ≤ k + 1 := by omega
  have hk2 : (k + 1).toNat = k.toNat + 1 := by omega
  have hk3 : k.toNat + 1 ≤ x.len := by omega
  have hk4 : k + 1 ≤ (x.len : Int) := by omega
  have hk5 : ((k.toNat + 1 : Nat) : Int) = k + 1 := by omega
  have hr0 : rto r .ready none = r := by rw [← hs, ← hp]; rfl
  have hr1 : rto r .busy none = rto r .busy none := rfl
  refine yok_of_eng (i := 8) (τ := t51 m) (r := r) (pl := pl51) mixed (Γ0_sound E) (by simp only [h51, hget, List.cons_append, List.nil_append, eq_self]) has hb hps rfl (by kernel_rfl) (by kernel_rfl) (by cases decide (n = m) <;> simp [h51, g51]) 100 (fun F hF => ?_)
  simp only [Try.f51, rfb, rfOf, pl51, h51, t51, ri, rb, hs, hp, hw, begF, putPs, eng, litSt, srunA_nil, srunA_b, stepR, contB_mk, r0, regC, sop, unw, strip, sev, tg, tset, tput, undefs, needs, opNeeds, sBin, ibin, shiftOp, gdst, onth, selC, sLoad, sStore, sNil, sField, sSlice, cellsAt, hget, hset, hd1, vcells, one, splice, drawSt, preL, chkL, stp, nxtB_mk, pref_0, pref_b, allocOp, holes, List.length_cons, List.length_nil, List.cons_append, List.nil_append, List.append_nil, List.take_succ_cons, List.take_zero, List.take_nil, List.drop_succ_cons, List.drop_zero, List.drop_nil, List.all_cons, List.all_nil, true_and, and_true, and_self, or_true, not_false_eq_true, eq_self, ne_eq, Bool.false_eq_true, Bool.and_self, Nat.zero_add, Nat.add_zero, Nat.le_refl, Option.getD_some, reduceCtorEq, Value.oneCell', Nat.reduceAdd, tk3, ts3, ta3, tk4, ts4, tk92, ts92, ta92, te92, tf94_0, tk108, ta108, tk110, ts110]
  cases h : decide (n = m) with
  | true =>
    simp only [hk1, hk2, hk4, true_and, and_self]
    refine hF none _ _ _ ?_
    simp only [h, h51, g51, t51, ri, rb, hk5, rto_rto, RFin, rfin, jumpOf, endSt, Option.isNone_some, vwks, vwk1, hwk, bwk, sc, scs, undefs, hget, hset, List.length_cons, List.length_nil, List.cons_append, List.nil_append, and_self, implies_true, eq_self, Bool.not_true, Bool.and_self, decide_true, Nat.zero_add, Nat.le_refl, Nat.reduceAdd, Nat.reduceLT]
  | false =>
    simp only []
    refine hF none _ _ _ ?_
    simp only [h, h51, t51, ri, rb, hr0, rto_rto, RFin, rfin, jumpOf, endSt, Option.isNone_none, vwks, vwk1, hwk, bwk, sc, scs, undefs, hget, hset, List.length_cons, List.length_nil, List.cons_append, List.nil_append, and_self, implies_true, eq_self, Bool.not_false, Bool.and_self, decide_true, Nat.zero_add, Nat.le_refl, Nat.reduceAdd, Nat.reduceLT]

/-- What the range's function knows of its rounds. -/
def Y51 (x : Nod) (m : Int) (l : Nat) (r : Loop) : Con := fun f args H => match f with
  | .yield q => match args with
    | [.raw (.int .i64 n), .raw (.int .i64 v)] =>
      ⟨l = q ∧ (0 ≤ ivn (cellOf (hget H 6) 0) ∧ ivn (cellOf (hget H 6) 0) < x.len) ∧ H = h51 x m l r (ivn (cellOf (hget H 6) 0)) ++ [.cells [ri n, ri v] 110], rb (!decide (n = m)),
        match decide (n = m) with
        | true => g51 x m l r ((ivn (cellOf (hget H 6) 0)).toNat + 1) v ++ [.cells [ri n, ri v] 110]
        | false => h51 x m l r (ivn (cellOf (hget H 6) 0) + 1) ++ [.cells [ri n, ri v] 110]⟩
    | _ => no
  | _ => no

theorem Y51_sound (E : Addr → Option Value) (x : Nod) (m : Int) (l : Nat) (r : Loop) (hx : x.room) (hs : r.state = .ready) (hp : r.pending = none) (hps : r.params.toList = [11, 12]) (has : r.assign = (rfb Try.f51).2.1) (hb : r.body = (rfb Try.f51).2.2) : Con.Sound Try.prog E (Y51 x m l r) := by
  intro f args H h
  unfold Y51 at h ⊢
  split at h
  · split at h
    · rename_i n v
      obtain ⟨hl, ⟨h1, h2⟩, h3⟩ := h
      subst hl
      have := y51 E x m l r _ n v hx h1 h2 hs hp hps has hb
      rw [← h3] at this
      exact this
    · exact h.elim
  · exact h.elim

def firstAt (p : Nat → Bool) : Nat → Nat → Nat
  | k, 0 => k
  | k, n + 1 => match p k with
    | true => k
    | false => firstAt p (k + 1) n

/-- Where the first ask of a number lies. -/
def Nod.at (x : Nod) (m : Int) : Nat := firstAt (fun k => decide (x.an (x.off + k) = m)) 0 x.len

end Go.Proofs.Ytmnpnnegnlhemaa.Eng
namespace Go.Proofs.Ytmnpnnegnlhemaa.Eng
open Go

theorem firstAt_eq {p : Nat → Bool} : ∀ (n k j : Nat), k ≤ j → j ≤ k + n → (∀ i, k ≤ i → i < j → p i = false) → (j < k + n → p j = true) → firstAt p k n = j
  | 0, k, j, h1, h2, _, _ => by simp only [firstAt]; omega
  | n + 1, k, j, h1, h2, h3, h4 => by
    simp only [firstAt]
    by_cases e : k = j
    · subst e
      rw [h4 (by omega)]
    · rw [h3 k (Nat.le_refl _) (by omega)]
      exact firstAt_eq n (k + 1) j (by omega) (by omega) (fun i hi hj => h3 i (by omega) hj) (fun hj => h4 (by omega))

def pl59 : Nat → Plan
  | _ => []
def py59 : Nat → Plan
  | 3 => [([], 0)]
  | id => pl59 id
set_option maxRecDepth 100000 in
theorem ok59 (E : Addr → Option Value) (x : Nod) (m : Int) (l : Nat) (r : Loop) (hx : x.room) (hs : r.state = .ready) (hp : r.pending = none) (hps : r.params.toList = [11, 12]) (has : r.assign = (rfb Try.f51).2.1) (hb : r.body = (rfb Try.f51).2.2) :
    Ok Try.prog E 59 [.fn (.yield l) [] [], .ptr 7 0] (h51 x m l r 0) (.tup []) (match decide (x.at m < x.len) with | true => g51 x m l r (x.at m + 1) (x.av (x.off + x.at m)) | false => h51 x m l r x.len) := by
  have hx' : x.len ≤ 1000000 := hx
  refine ok_of_eng (pl := py59) mixed (Y51_sound E x m l r hx hs hp hps has hb) Try.func59 rfl rfl (by kernel_rfl) (by cases decide (x.at m < x.len) <;> simp [h51, g51]) 100 (fun F hF => ?_)
  simp only [Try.f59, py59, pl59, h51, t51, ri, rb, eng, litSt, srunA_nil, srunA_b, stepR, contB_mk, r0, regC, sop, unw, strip, sev, tg, tset, tput, undefs, needs, opNeeds, sLoad, sNil, sField, sLen, sBuiltin, cellsAt, hget, hd1, List.length_cons, List.length_nil, List.cons_append, List.nil_append, List.map_cons, List.map_nil, List.take_succ_cons, List.take_nil, List.drop_succ_cons, List.drop_zero, true_and, and_self, not_false_eq_true, eq_self, ne_eq, Nat.zero_add, Nat.add_zero, Nat.le_refl, reduceCtorEq, Nat.reduceAdd, Nat.reduceSub, tk92, ta92, te92, tf94_0, tk108, ta108]
  refine ⟨Nat, fun k => [.fn (.yield l) [] [], .ptr 7 0, .junk, .junk, .junk, .junk, .junk, .junk, .lst 1 2 x.off x.len, ri x.len, ri k, .junk, .junk, .junk, .junk, .junk, .junk, .junk, .junk, .junk, .junk, .junk], fun k => h51 x m l r k,
    fun k => k ≤ x.len ∧ ∀ j, j < k → decide (x.an (x.off + j) = m) = false, fun k => x.len - k, 0, ⟨by omega, fun j hj => by omega⟩, ⟨none, ?_⟩, ?_⟩
  · simp only [NwO, Nw, h51, t51, ri, rb, Int.natCast_zero, NwO, Nw, wk, vwks, vwk1, hwk, bwk, sc, scs, undefs, List.length_cons, List.length_nil, List.cons_append, List.nil_append, and_self, implies_true, eq_self, Bool.and_self, decide_true, Nat.zero_add, Nat.le_refl, Nat.reduceAdd, Nat.reduceLT]
  · rintro k ⟨hk, hall⟩ F' hN hX
    simp only [py59, pl59, h51, t51, Y51, ri, rb, cellOf, ivn, stepY, srunY_nil, srunY_b, contY_mk, yieldR, eng, litSt, srunA_nil, srunA_b, stepR, contB_mk, r0, regC, sop, unw, strip, sev, tg, tset, tput, undefs, needs, opNeeds, sBin, ibin, shiftOp, selC, sLoad, sStore, sField, sIndex, sNew, sAlloc, sUn, cellsAt, hget, hset, hd1, vcells, one, splice, holeAt, idxAt, pushAt, List.length_cons, List.length_nil, List.cons_append, List.nil_append, List.append_nil, List.map_cons, List.map_nil, List.take_succ_cons, List.take_zero, List.take_nil, List.drop_succ_cons, List.drop_zero, List.drop_nil, List.all_cons, List.all_nil, true_and, and_true, and_self, or_true, not_false_eq_true, eq_self, ne_eq, Bool.false_eq_true, Bool.and_self, Nat.zero_add, Nat.add_zero, Nat.le_refl, Int.toNat_natCast, Int.natCast_nonneg, reduceCtorEq, Value.oneCell', Nat.reduceAdd, Nat.reduceLeDiff, tk3, ta3, te92, tk110, ts110, ta110, tz110, tf110_0, tf110_1]
    cases hlt : decide ((k : Int) < x.len) with
    | false =>
      have hkl : k = x.len := by simp at hlt; omega
      have hat : x.at m = x.len := firstAt_eq _ _ _ (Nat.zero_le _) (by omega) (fun i _ hi => hall i (by omega)) (fun h => by omega)
      have hd : decide (x.at m < x.len) = false := by rw [hat]; simp
      simp only []
      refine hX _ _ _ (by simp) ?_
      simp only [popF, eng, popF, exitC, Nat.reduceBEq]
      refine hF _ _ _ ⟨trivial, ?_⟩
      simp only [Try.f59, hd, h51, t51, hkl, ri, rb, retP, sResults, retV, vwk, vwks, vwk1, hwk, bwk, sc, scs, undefs, List.length_cons, List.length_nil, List.cons_append, List.nil_append, and_self, implies_true, eq_self, Bool.and_self, decide_true, Nat.zero_add, Nat.le_refl, Nat.reduceAdd, Nat.reduceLT]
    | true =>
      have hk' : k < x.len := by simp at hlt; omega
      have hk2 : x.off + k < x.off + x.len := by omega
      have hk3 : ((k : Int) < x.len) = True := by simp; omega
      have hw : IntKind.i64.wrap ((k : Int) + 1) = k + 1 := wrap1 (by omega) (by omega)
      simp only [hk2, hk3, hw, true_and, and_self]
      cases ha : decide (x.an (x.off + k) = m) with
      | true =>
        have hat : x.at m = k := firstAt_eq _ _ _ (Nat.zero_le _) (by omega) (fun i _ hi => hall i hi) (fun _ => ha)
        have hd : decide (k < x.len) = true := by simpa using hk'
        simp only [Bool.not_true, Bool.not_false]
        refine hX _ _ _ (by simp) ?_
        simp only [popF, eng, popF]
        refine hF _ _ _ ⟨trivial, ?_⟩
        simp only [Try.f59, hd, hat, g51, h51, t51, ri, rb, retP, sResults, retV, vwk, vwks, vwk1, hwk, bwk, sc, scs, undefs, List.length_cons, List.length_nil, List.cons_append, List.nil_append, and_self, implies_true, eq_self, Bool.and_self, decide_true, Nat.zero_add, Nat.le_refl, Nat.reduceAdd, Nat.reduceLT]
      | false =>
        simp only [Bool.not_true, Bool.not_false]
        refine hN none (k + 1) _ _ ⟨by omega, fun j hj => ?_⟩ (by simp only; omega) ?_
        · rcases Nat.lt_succ_iff_lt_or_eq.1 hj with q | q
          · exact hall j q
          · rw [q]; exact ha
        · simp only [NwO, Nw, h51, t51, ri, rb, Int.natCast_add, Int.natCast_one, NwO, Nw, wk, vwks, vwk1, hwk, bwk, sc, scs, undefs, List.length_cons, List.length_nil, List.cons_append, List.nil_append, and_self, implies_true, eq_self, Bool.and_self, decide_true, Nat.zero_add, Nat.le_refl, Nat.reduceAdd, Nat.reduceLT]
end Go.Proofs.Ytmnpnnegnlhemaa.Eng
namespace Go.Proofs.Ytmnpnnegnlhemaa.Eng
open Go

def Nod.hit (x : Nod) (m : Int) : Bool := decide (x.at m < x.len)
def Nod.takes (x : Nod) (m : Int) : Nod := match x.hit m with
  | true => { x with off := x.off + (x.at m + 1), len := x.len - (x.at m + 1) }
  | false => x

set_option maxRecDepth 100000 in
theorem ok51 (E : Addr → Option Value) (x : Nod) (m : Int) (hx : x.room) : Ok Try.prog E 51 [.ptr 0 6, ri m] (encN x) (.tup [ri (if x.hit m = true then x.av (x.off + x.at m) else 0), rb (x.hit m)]) (encN (x.takes m)) := by
  refine ok_of_eng (pl := pl51) mixed (ΓA_sound E) Try.func51 rfl rfl (by kernel_rfl) (by simp [encN]) 100 (fun F hF => ?_)
  simp only [Try.f51, pl51, ΓA, onNat, allN, sigN, ren, rens, decN, decN2, lix, lof, lln, el0, el1, ivn, cellOf, lstF, nodupB, encN, ri, rb, renB, rens, ren, sig, subH, updH, eng, litSt, srunA_nil, srunA_b, stepR, contB_mk, r0, regC, sop, unw, strip, sev, tg, tset, tput, undefs, needs, opNeeds, sLoad, sStore, sNew, sAlloc, sBox, sCall, cellsAt, hget, hset, hd1, vcells, one, splice, holeAt, idxAt, pushAt, List.length_cons, List.length_nil, List.cons_append, List.nil_append, List.append_nil, List.map_cons, List.map_nil, List.take_succ_cons, List.take_zero, List.take_nil, List.drop_succ_cons, List.drop_zero, List.drop_nil, List.all_cons, List.all_nil, List.contains_cons, List.contains_nil, List.getElem?_cons_zero, List.getElem?_cons_succ, List.getElem?_nil, true_and, and_self, eq_self, Bool.not_false, Bool.or_false, Bool.and_self, Nat.zero_add, Nat.add_zero, Nat.le_refl, Option.getD_some, Option.getD_none, Value.oneCell', Nat.reduceAdd, Nat.reduceSub, Nat.reduceLT, Nat.reduceBEq, tk3, ts3, tz3, tz4, tk108, ta108]
  unfold rangeP
  refine ⟨by simp only [sev, tg, needs, and_self], fun l d fid r hr => ?_⟩
  have hok := ok59 E x m l r hx (by rw [hr]) (by rw [hr]) (by rw [hr]) (by rw [hr]; rfl) (by rw [hr]; rfl)
  have hst : r.state = .ready := by rw [hr]
  have hpe : r.pending = none := by rw [hr]
  clear hr
  cases hh : x.hit m with
  | true =>
    have hh' : decide (x.at m < x.len) = true := hh
    have hlt : x.at m < x.len := by simpa using hh'
    have e1 : x.off + (x.at m + 1) + (x.len - (x.at m + 1)) = x.off + x.len := by omega
    simp only [hh'] at hok
    refine ⟨.tup [], _, t51 m, rto r .done (some .ret), hok, by simp only [g51, hget, List.length_cons, List.length_nil, eq_self, Nat.zero_add, Nat.reduceAdd], by simp [rto], ?_⟩
    simp only [g51, t51, ri, rb, jumpP, popF, rto_pending, eng, undefs, popF, hset, List.length_cons, List.length_nil, List.cons_append, List.nil_append, Nat.zero_add, Nat.reduceAdd]
    exact hF _ _ _ ⟨trivial, by simp only [Try.f51, encN, Nod.takes, hh, e1, ri, rb, retP, sResults, sRes1, resK, retV, vwk, vwks, vwk1, hwk, bwk, sc, scs, tg, sLoad, cellsAt, hget, hd1, List.length_cons, List.length_nil, List.take_succ_cons, List.take_nil, List.drop_zero, and_self, implies_true, eq_self, Bool.and_self, decide_true, Nat.zero_add, Nat.le_refl, ↓reduceIte, Nat.reduceAdd, Nat.reduceLT, tk3, ta3, tk4, ta4]⟩
  | false =>
    have hh' : decide (x.at m < x.len) = false := hh
    simp only [hh'] at hok
    refine ⟨.tup [], _, t51 m, r, hok, by simp only [h51, hget, List.length_cons, List.length_nil, eq_self, Nat.zero_add, Nat.reduceAdd], by rw [hst]; simp, ?_⟩
    simp only [h51, t51, ri, rb, jumpP, popF, hpe, pl51, eng, litSt, srunA_nil, srunA_b, stepR, contB_mk, r0, regC, sop, unw, strip, sev, tg, tset, tput, undefs, needs, opNeeds, popF, sLoad, sStore, cellsAt, hget, hset, hd1, vcells, one, splice, List.length_cons, List.length_nil, List.cons_append, List.nil_append, List.append_nil, List.take_succ_cons, List.take_zero, List.take_nil, List.drop_succ_cons, List.drop_zero, List.drop_nil, List.all_cons, List.all_nil, true_and, and_self, eq_self, Bool.and_self, Nat.zero_add, Nat.le_refl, Value.oneCell', Nat.reduceAdd, tk3, ts3, ta3, tk4, ts4]
    exact hF _ _ _ ⟨trivial, by simp only [Try.f51, encN, Nod.takes, hh, ri, rb, retP, sResults, sRes1, resK, retV, vwk, vwks, vwk1, hwk, bwk, sc, scs, tg, sLoad, cellsAt, hget, hd1, List.length_cons, List.length_nil, List.take_succ_cons, List.take_nil, List.drop_zero, and_self, implies_true, eq_self, Bool.false_eq_true, Bool.and_self, decide_true, Nat.zero_add, Nat.le_refl, ↓reduceIte, Nat.reduceAdd, Nat.reduceLT, tk3, ta3, tk4, ta4]⟩

def ΓK : Con := fun f args H => match f with
  | .func 50 => c50 args H
  | .func 51 => match args with
    | [.ptr i 6, .raw (.int .i64 m)] => onNat 6 (fun x => (.tup [.raw (.int .i64 (if x.hit m = true then x.av (x.off + x.at m) else 0)), .raw (.bool (x.hit m))], encN (x.takes m))) Nod.room H i
    | _ => no
  | f => ΓN f args H
theorem ΓK_sound (E : Addr → Option Value) : Con.Sound Try.prog E ΓK := by
  intro f args H h
  unfold ΓK at h ⊢
  split at h
  · exact c50_sound h
  · split at h
    · rename_i i m
      exact onNat_sound (args := [ri m]) (fun x hx => ok51 E x m hx) (fun _ => rfl) rfl h
    · exact h.elim
  · exact ΓN_sound E f args H h

def pl19 : Nat → Plan
  | _ => []
def Nod.mine (x : Nod) (k n m : Int) : Bool := valid k n m && decide (n = x.number)
def Nod.gets (x : Nod) (k n m : Int) : Bool := x.mine k n m && decide (k = 2) && x.hit m
def Nod.hear (x : Nod) (k n m : Int) : Nod := match x.gets k n m with
  | true => { x.takes m with en := max x.en (IntKind.i64.wrap (x.av (x.off + x.at m) + x.term)) }
  | false => x
set_option maxRecDepth 100000 in
theorem ok19 (E : Addr → Option Value) (x : Nod) (k n m : Int) (hx : x.room) : Ok Try.prog E 19 [.ptr 0 0, word k n m] (encN x) (ri (if x.mine k n m = true then 0 else 2)) (encN (x.hear k n m)) := by
  have hx' : x.len ≤ 1000000 := hx
  refine ok_of_eng (pl := pl19) mixed (ΓK_sound E) Try.func19 rfl rfl (by kernel_rfl) (by simp [encN]) 100 (fun F hF => ?_)
  cases hv : valid k n m with
  | false =>
    simp only [Try.f19, pl19, ΓK, ΓN, c50, word, onNat, allN, sigN, ren, rens, decN, decN2, lix, lof, lln, el0, el1, ivn, cellOf, lstF, nodupB, encN, ri, rb, hv, renB, rens, ren, sig, subH, updH, eng, litSt, srunA_nil, srunA_b, stepR, contB_mk, r0, r1, r2, regC, sop, unw, strip, sev, tg, tset, tput, undefs, needs, opNeeds, sBin, ibin, shiftOp, gb, gslot, gdst, onth, wants, sPick, selC, sLoad, sNil, sField, sBox, sCall, sUn, cellsAt, hget, hset, hd1, vcells, one, holeAt, idxAt, pushAt, drawSt, preL, chkL, stp, nxtB_mk, pref_0, pref_b, allocOp, holes, List.length_cons, List.length_nil, List.cons_append, List.nil_append, List.append_nil, List.map_cons, List.map_nil, List.take_succ_cons, List.take_zero, List.take_nil, List.drop_succ_cons, List.drop_zero, List.all_cons, List.all_nil, List.contains_cons, List.contains_nil, List.getElem?_cons_zero, List.getElem?_cons_succ, true_and, and_self, or_true, implies_true, imp_self, not_false_eq_true, eq_self, ne_eq, Bool.true_eq_false, Bool.false_eq_true, Bool.not_true, Bool.not_false, Bool.or_false, Bool.and_self, Bool.cond_true, Nat.zero_add, Nat.add_zero, Nat.le_refl, Option.getD_some, reduceCtorEq, Value.oneCell', ↓reduceIte, Nat.reduceAdd, Nat.reduceSub, Nat.reduceLT, Nat.reduceLeDiff, Nat.reduceBEq, tk3, ta3, tk41, ts41, ta41, tf41_1, tf96_2]
    exact hF _ _ _ ⟨trivial, by simp only [Try.f19, encN, Nod.mine, Nod.gets, Nod.hear, ri, rb, hv, retP, sResults, sRes1, resK, retV, vwk, vwks, vwk1, hwk, bwk, sc, scs, tg, List.length_cons, List.length_nil, and_self, implies_true, eq_self, Bool.false_eq_true, Bool.false_and, Bool.and_self, decide_true, Nat.zero_add, Nat.le_refl, ↓reduceIte, Nat.reduceAdd, Nat.reduceLT]⟩
  | true =>
    cases hn : decide (n = x.number) with
    | false =>
      simp only [Try.f19, pl19, ΓK, ΓN, c50, word, onNat, allN, sigN, ren, rens, decN, decN2, lix, lof, lln, el0, el1, ivn, cellOf, lstF, nodupB, encN, ri, rb, hv, hn, renB, rens, ren, sig, subH, updH, eng, litSt, srunA_nil, srunA_b, stepR, contB_mk, r0, r1, r2, regC, sop, unw, strip, sev, tg, tset, tput, undefs, needs, opNeeds, sBin, ibin, shiftOp, gb, gslot, gdst, onth, wants, sPick, selC, sLoad, sNil, sField, sBox, sCall, sUn, cellsAt, hget, hset, hd1, vcells, one, holeAt, idxAt, pushAt, drawSt, preL, chkL, stp, nxtB_mk, pref_0, pref_b, allocOp, holes, List.length_cons, List.length_nil, List.cons_append, List.nil_append, List.append_nil, List.map_cons, List.map_nil, List.take_succ_cons, List.take_zero, List.take_nil, List.drop_succ_cons, List.drop_zero, List.all_cons, List.all_nil, List.contains_cons, List.contains_nil, List.getElem?_cons_zero, List.getElem?_cons_succ, true_and, and_self, or_true, implies_true, not_false_eq_true, eq_self, ne_eq, Bool.false_eq_true, Bool.not_true, Bool.not_false, Bool.or_false, Bool.and_self, Bool.cond_false, Nat.zero_add, Nat.add_zero, Nat.le_refl, Option.getD_some, reduceCtorEq, Value.oneCell', ↓reduceIte, Nat.reduceAdd, Nat.reduceSub, Nat.reduceLT, Nat.reduceLeDiff, Nat.reduceBEq, tk3, ta3, tk41, ts41, ta41, tf41_1, tf96_2]
      exact hF _ _ _ ⟨trivial, by simp only [Try.f19, encN, Nod.mine, Nod.gets, Nod.hear, ri, rb, hv, hn, retP, sResults, sRes1, resK, retV, vwk, vwks, vwk1, hwk, bwk, sc, scs, tg, List.length_cons, List.length_nil, and_self, implies_true, eq_self, Bool.false_eq_true, Bool.false_and, Bool.and_false, Bool.and_self, decide_true, Nat.zero_add, Nat.le_refl, ↓reduceIte, Nat.reduceAdd, Nat.reduceLT]⟩
    | true =>
      cases hk : decide (k = 2) with
      | false =>
        simp only [Try.f19, pl19, ΓK, ΓN, c50, word, onNat, allN, sigN, ren, rens, decN, decN2, lix, lof, lln, el0, el1, ivn, cellOf, lstF, nodupB, encN, ri, rb, hv, hn, hk, renB, rens, ren, sig, subH, updH, eng, litSt, srunA_nil, srunA_b, stepR, contB_mk, r0, r1, r2, regC, sop, unw, strip, sev, tg, tset, tput, undefs, needs, opNeeds, sBin, ibin, shiftOp, gb, gslot, gdst, onth, wants, sPick, selC, sLoad, sNil, sField, sBox, sCall, sUn, cellsAt, hget, hset, hd1, vcells, one, holeAt, idxAt, pushAt, drawSt, preL, chkL, stp, nxtB_mk, pref_0, pref_b, allocOp, holes, List.length_cons, List.length_nil, List.cons_append, List.nil_append, List.append_nil, List.map_cons, List.map_nil, List.take_succ_cons, List.take_zero, List.take_nil, List.drop_succ_cons, List.drop_zero, List.all_cons, List.all_nil, List.contains_cons, List.contains_nil, List.getElem?_cons_zero, List.getElem?_cons_succ, true_and, and_self, or_true, implies_true, not_false_eq_true, eq_self, ne_eq, Bool.false_eq_true, Bool.not_true, Bool.not_false, Bool.or_false, Bool.and_self, Bool.cond_false, Nat.zero_add, Nat.add_zero, Nat.le_refl, Option.getD_some, reduceCtorEq, Value.oneCell', ↓reduceIte, Nat.reduceAdd, Nat.reduceSub, Nat.reduceLT, Nat.reduceLeDiff, Nat.reduceBEq, tk3, ta3, tk41, ts41, ta41, tf41_0, tf41_1, tf96_2]
        exact hF _ _ _ ⟨trivial, by simp only [Try.f19, encN, Nod.mine, Nod.gets, Nod.hear, ri, rb, hv, hn, hk, retP, sResults, sRes1, resK, retV, vwk, vwks, vwk1, hwk, bwk, sc, scs, tg, List.length_cons, List.length_nil, and_self, implies_true, eq_self, Bool.false_and, Bool.and_false, Bool.and_self, decide_true, Nat.zero_add, Nat.le_refl, ↓reduceIte, Nat.reduceAdd, Nat.reduceLT]⟩
      | true =>
        cases hh : x.hit m with
        | false =>
          simp only [Try.f19, pl19, ΓK, ΓN, c50, word, onNat, allN, sigN, ren, rens, decN, decN2, lix, lof, lln, el0, el1, ivn, cellOf, lstF, nodupB, encN, Nod.takes, Nod.room, hx', ri, rb, hv, hn, hk, hh, renB, rens, ren, sig, subH, updH, eng, litSt, srunA_nil, srunA_b, stepR, contB_mk, r0, r1, r2, regC, sop, unw, strip, sev, tg, tset, tput, undefs, needs, opNeeds, sBin, ibin, shiftOp, gb, gslot, gdst, onth, wants, sPick, selC, sLoad, sNil, sExtract, sField, sBox, sCall, sUn, cellsAt, hget, hset, hd1, vcells, one, holeAt, idxAt, pushAt, drawSt, preL, chkL, stp, nxtB_mk, pref_0, pref_b, allocOp, holes, List.length_cons, List.length_nil, List.cons_append, List.nil_append, List.append_nil, List.map_cons, List.map_nil, List.take_succ_cons, List.take_zero, List.take_nil, List.drop_succ_cons, List.drop_zero, List.all_cons, List.all_nil, List.contains_cons, List.contains_nil, List.getElem?_cons_zero, List.getElem?_cons_succ, true_and, and_self, or_true, implies_true, not_false_eq_true, eq_self, ne_eq, Bool.false_eq_true, Bool.not_true, Bool.not_false, Bool.or_false, Bool.and_self, Bool.cond_false, Nat.zero_add, Nat.add_zero, Nat.le_refl, Option.getD_some, reduceCtorEq, Value.oneCell', ↓reduceIte, Nat.reduceAdd, Nat.reduceSub, Nat.reduceLT, Nat.reduceLeDiff, Nat.reduceBEq, tk3, ta3, tk41, ts41, ta41, tf41_0, tf41_1, tf41_2, tf96_2, tf96_6]
          exact hF _ _ _ ⟨trivial, by simp only [Try.f19, encN, Nod.mine, Nod.gets, Nod.hear, ri, rb, hv, hn, hk, hh, retP, sResults, sRes1, resK, retV, vwk, vwks, vwk1, hwk, bwk, sc, scs, tg, List.length_cons, List.length_nil, and_self, implies_true, eq_self, Bool.and_false, Bool.and_self, decide_true, Nat.zero_add, Nat.le_refl, ↓reduceIte, Nat.reduceAdd, Nat.reduceLT]⟩
        | true =>
          have hlt : x.at m < x.len := by simpa [Nod.hit] using hh
          have e1 : x.off + (x.at m + 1) + (x.len - (x.at m + 1)) = x.off + x.len := by omega
          simp only [Try.f19, pl19, ΓK, ΓN, c50, word, onNat, allN, sigN, ren, rens, decN, decN2, lix, lof, lln, el0, el1, ivn, cellOf, lstF, nodupB, encN, Nod.takes, Nod.room, hx', ri, rb, hv, hn, hk, hh, e1, renB, rens, ren, sig, subH, updH, eng, litSt, srunA_nil, srunA_b, stepR, contB_mk, r0, r1, r2, regC, sop, unw, strip, sev, tg, tset, tput, undefs, needs, opNeeds, sBin, ibin, shiftOp, gb, gslot, gdst, onth, wants, sPick, selC, sLoad, sStore, sNil, sExtract, sMax, sField, sBox, sCall, sBuiltin, sUn, cellsAt, hget, hset, hd1, vcells, one, splice, holeAt, idxAt, pushAt, drawSt, preL, chkL, stp, nxtB_mk, pref_0, pref_b, allocOp, holes, List.length_cons, List.length_nil, List.cons_append, List.nil_append, List.append_nil, List.map_cons, List.map_nil, List.take_succ_cons, List.take_zero, List.take_nil, List.drop_succ_cons, List.drop_zero, List.all_cons, List.all_nil, List.contains_cons, List.contains_nil, List.getElem?_cons_zero, List.getElem?_cons_succ, true_and, and_self, or_true, implies_true, not_false_eq_true, eq_self, ne_eq, Bool.false_eq_true, Bool.not_true, Bool.not_false, Bool.or_false, Bool.and_self, Bool.cond_false, Nat.zero_add, Nat.add_zero, Nat.le_refl, Option.getD_some, reduceCtorEq, Value.oneCell', ↓reduceIte, Nat.reduceAdd, Nat.reduceSub, Nat.reduceLT, Nat.reduceLeDiff, Nat.reduceBEq, tk3, ts3, ta3, tk41, ts41, ta41, tf41_0, tf41_1, tf41_2, tf96_2, tf96_3, tf96_4, tf96_6]
          exact hF _ _ _ ⟨trivial, by simp only [Try.f19, encN, Nod.mine, Nod.gets, Nod.hear, Nod.takes, ri, rb, hv, hn, hk, hh, e1, retP, sResults, sRes1, resK, retV, vwk, vwks, vwk1, hwk, bwk, sc, scs, tg, List.length_cons, List.length_nil, and_self, implies_true, eq_self, Bool.and_self, decide_true, Nat.zero_add, Nat.le_refl, ↓reduceIte, Nat.reduceAdd, Nat.reduceLT]⟩

end Go.Proofs.Ytmnpnnegnlhemaa.Eng
namespace Go.Proofs.Ytmnpnnegnlhemaa.Eng
open Go

theorem liftNew {P : Program} {E : Addr → Option Value} {f : FuncId} {args : List SV} {v : SV} {H1 : List AB} (h : Ok P E f args [] v H1) (ha : ∀ τ : Nat → Nat, rens τ args = args) (hs : scs 0 args = true) (H : List AB) :
    Ok P E f args H (ren (sig [] H.length) v) (updH (sig [] H.length) H [] H1) := by
  have := h.frame H [] (by simp [subH]) (by simp) hs (by simp [hwk])
  rwa [ha] at this

def nodeOk (n t : Int) : Bool := (decide (1 ≤ n) && decide (n ≤ 8)) && (decide (1 ≤ t) && decide (t ≤ 100000))
def newN (n t : Int) : Nod := { now := 0, number := n, term := t, en := 0, last := 0, off := 0, len := 0, an := fun _ => 0, av := fun _ => 0 }

def pl14 : Nat → Plan
  | _ => []
set_option maxRecDepth 100000 in
theorem ok14 (E : Addr → Option Value) (n t : Int) (h : nodeOk n t = true) : Ok Try.prog E 14 [ri n, ri t] [] (.tup [.ptr 0 0, ri 0]) (encN (newN n t)) := by
  have h1 : (decide (1 ≤ n) && decide (n ≤ 8)) = true := by simp [nodeOk] at h ⊢; omega
  have h2 : (decide (1 ≤ t) && decide (t ≤ 100000)) = true := by simp [nodeOk] at h ⊢; omega
  refine ok_of_engR (pl := pl14) mixed (Γ1_sound E) Try.func14 rfl rfl (by kernel_rfl) (by simp) 100 (fun F _ hG => ?_)
  simp only [Try.f14, pl14, Γ1, c44, h1, h2, ri, eng, litSt, srunA_nil, srunA_b, stepR, contB_mk, r0, r1, r2, regC, sop, unw, strip, sev, tg, tset, tput, undefs, needs, opNeeds, gb, gslot, gdst, onth, wants, sPick, selC, sBox, sFill, sBuild, sCall, sUn, vcells, one, whole, splice, holeAt, idxAt, pushAt, nth, List.length_cons, List.length_nil, List.cons_append, List.nil_append, List.map_cons, List.map_nil, List.take_succ_cons, List.take_zero, List.drop_succ_cons, List.drop_zero, List.all_cons, List.all_nil, true_and, and_self, implies_true, eq_self, Bool.false_eq_true, Bool.not_true, Bool.not_false, Bool.and_self, Bool.cond_false, Nat.zero_add, Value.oneCell', ↓reduceIte, Nat.reduceAdd, Nat.reduceSub, Nat.reduceLeDiff, tz96, tpl96]
  exact hG [0, 1] _ _ _ ⟨trivial, rfl, by simp only [Try.f14, encN, newN, ri, rb, renR, renJ, renJs, mvH, hgetO, memB, posG, jp, renJB, retP, sResults, sRes1, resK, retV, vwk, vwks, vwk1, hwk, bwk, sc, scs, tg, List.length_cons, List.length_nil, and_self, eq_self, Bool.and_self, decide_true, decide_false, Nat.zero_add, Nat.add_zero, reduceCtorEq, Nat.reduceAdd, Nat.reduceLT, Nat.reduceLeDiff]⟩

set_option maxRecDepth 100000 in
theorem ok14n (E : Addr → Option Value) (n t : Int) (h : nodeOk n t = false) : Ok Try.prog E 14 [ri n, ri t] [] (.tup [.raw (.pointer none), ri 4]) [] := by
  refine ok_of_eng (pl := pl14) mixed (Γ1_sound E) Try.func14 rfl rfl (by kernel_rfl) (by simp) 100 (fun F hF => ?_)
  cases h1 : (decide (1 ≤ n) && decide (n ≤ 8)) with
  | true =>
    have h2 : (decide (1 ≤ t) && decide (t ≤ 100000)) = false := by rw [nodeOk, h1] at h; simpa using h
    simp only [Try.f14, pl14, Γ1, c44, h1, h2, ri, eng, litSt, srunA_nil, srunA_b, stepR, contB_mk, r0, r1, r2, regC, sop, unw, strip, sev, tg, tset, tput, undefs, needs, opNeeds, gb, gslot, gdst, onth, wants, sPick, selC, sCall, sUn, List.length_cons, List.length_nil, List.cons_append, List.nil_append, List.map_cons, List.map_nil, true_and, and_self, implies_true, eq_self, Bool.false_eq_true, Bool.not_true, Bool.not_false, Bool.cond_false, Nat.zero_add, ↓reduceIte, Nat.reduceAdd, Nat.reduceSub]
    exact hF _ _ _ ⟨trivial, by simp only [Try.f14, ri, retP, sResults, sRes1, resK, retV, vwk, vwks, vwk1, hwk, sc, scs, tg, List.length_nil, and_self, eq_self, Bool.and_self, Nat.le_refl]⟩
  | false =>
    simp only [Try.f14, pl14, Γ1, c44, h1, ri, eng, litSt, srunA_nil, srunA_b, stepR, contB_mk, r0, r1, r2, regC, sop, unw, strip, sev, tg, tset, tput, undefs, needs, opNeeds, gb, gslot, gdst, onth, wants, sPick, selC, sCall, sUn, List.length_cons, List.length_nil, List.cons_append, List.nil_append, List.map_cons, List.map_nil, true_and, and_self, implies_true, imp_self, eq_self, Bool.true_eq_false, Bool.false_eq_true, Bool.not_true, Bool.not_false, Bool.cond_true, Nat.zero_add, ↓reduceIte, Nat.reduceAdd, Nat.reduceSub]
    exact hF _ _ _ ⟨trivial, by simp only [Try.f14, ri, retP, sResults, sRes1, resK, retV, vwk, vwks, vwk1, hwk, sc, scs, tg, List.length_nil, and_self, eq_self, Bool.and_self, Nat.le_refl]⟩

def c14 : List SV → List AB → Res
  | [.raw (.int .i64 n), .raw (.int .i64 t)], H => match nodeOk n t with
    | true => ⟨True, ren (sig [] H.length) (.tup [.ptr 0 0, ri 0]), updH (sig [] H.length) H [] (encN (newN n t))⟩
    | false => ⟨True, .tup [.raw (.pointer none), ri 4], H⟩
  | _, _ => no

theorem c14_sound {E : Addr → Option Value} {args : List SV} {H : List AB} (h : (c14 args H).pre) : Ok Try.prog E 14 args H (c14 args H).val (c14 args H).heap := by
  unfold c14 at h ⊢
  split at h
  · rename_i H0 n t
    cases hn : nodeOk n t with
    | true => exact liftNew (ok14 E n t hn) (fun _ => rfl) rfl _
    | false => exact lift0 (ok14n E n t hn) (fun _ => rfl) rfl (fun _ => rfl) _
  · exact h.elim

end Go.Proofs.Ytmnpnnegnlhemaa.Eng
namespace Go.Proofs.Ytmnpnnegnlhemaa.Eng
open Go

/-! the centre -/
def cenOk (n t s : Int) : Bool := rules t s && (decide (1 ≤ n) && decide (n ≤ 8))
def newC (n t s : Int) : Cen := { now := 0, node := 0, number := 0, since := 0, wait := wait t s, wanted := 0, n := n.toNat + 1, gr := fun _ => 0 }

def c11r : List SV → List AB → Res
  | [.raw (.int .i64 t), .raw (.int .i64 s)], H => match rules t s with
    | true => ⟨True, .tup [.raw (.int .i64 (wait t s)), .raw (.int .i64 0)], H⟩
    | false => ⟨True, .tup [.raw (.int .i64 0), .raw (.int .i64 4)], H⟩
  | _, _ => no

theorem c11r_sound {E : Addr → Option Value} {args : List SV} {H : List AB} (h : (c11r args H).pre) : Ok Try.prog E 11 args H (c11r args H).val (c11r args H).heap := by
  unfold c11r at h ⊢
  split at h
  · rename_i H0 t s
    have := lift0 (ok11 E t s) (fun _ => rfl) rfl (fun _ => rfl) H
    cases hr : rules t s with
    | true => simpa only [hr, if_true, ri] using this
    | false => simpa only [hr, Bool.false_eq_true, if_false, ri] using this
  · exact h.elim

def Γ13 : Con := fun f args H => match f with
  | .func 11 => c11r args H
  | .func 44 => c44 args H
  | _ => no
theorem Γ13_sound (E : Addr → Option Value) : Con.Sound Try.prog E Γ13 := by
  intro f args H h
  unfold Γ13 at h ⊢
  split at h
  · exact c11r_sound h
  · exact c44_sound h
  · exact h.elim

def pl13 : Nat → Plan
  | _ => []
set_option maxRecDepth 100000 in
theorem ok13 (E : Addr → Option Value) (n t s : Int) (h : cenOk n t s = true) : Ok Try.prog E 13 [ri n, ri t, ri s] [] (.tup [.ptr 0 0, ri 0]) (encC (newC n t s)) := by
  have h1 : (decide (1 ≤ n) && decide (n ≤ 8)) = true := by simp [cenOk] at h ⊢; omega
  have h2 : rules t s = true := by simp [cenOk] at h; exact h.1
  have hb : 1 ≤ n ∧ n ≤ 8 := by simpa using h1
  have hw : IntKind.i64.wrap (n + 1) = n + 1 := w64 (by omega) (by omega)
  have e1 : (n + 1).toNat = n.toNat + 1 := by omega
  refine ok_of_engR (pl := pl13) mixed (Γ13_sound E) Try.func13 rfl rfl (by kernel_rfl) (by simp) 100 (fun F _ hG => ?_)
  simp only [Try.f13, pl13, Γ13, c11r, c44, h1, h2, hw, e1, ri, eng, litSt, srunA, stepR, contA, r0, r1, r2, regC, sop, unw, strip, sev, tg, tset, tput, undefs, needs, opNeeds, sBin, ibin, shiftOp, gb, gslot, gdst, onth, wants, sPick, selC, sStore, sNil, sExtract, sField, sBox, sFill, sBuild, sMake, sMap, sInsert, sCall, sUn, hget, hset, vcells, one, whole, splice, holeAt, idxAt, pushAt, nth, hasKey, List.length_cons, List.length_nil, List.cons_append, List.nil_append, List.append_nil, List.map_cons, List.map_nil, List.take_succ_cons, List.take_zero, List.drop_succ_cons, List.drop_zero, List.drop_nil, List.all_cons, List.all_nil, List.getElem?_cons_zero, List.getElem?_cons_succ, true_and, and_true, and_self, or_true, implies_true, not_false_eq_true, eq_self, ne_eq, Bool.false_eq_true, Bool.not_true, Bool.not_false, Bool.or_false, Bool.and_self, Bool.cond_false, decide_true, decide_false, Nat.zero_add, Nat.le_refl, reduceCtorEq, Value.oneCell', ↓reduceIte, Nat.reduceAdd, Nat.reduceSub, Nat.reduceLeDiff, Int.reduceEq, ts3, tb3, tz3, ti3, te73, tk88, ts88, tm88, tz90, tf90_6, tpl90]
  refine ⟨⟨by omega, by omega, by omega⟩, hG [1, 0, 2] _ _ _ ⟨trivial, rfl, by simp only [Try.f13, encC, newC, ri, rb, renR, renJ, renJs, mvH, hgetO, memB, posG, jp, renJB, renJEnts, retP, sResults, sRes1, resK, retV, vwk, vwks, vwk1, hwk, bwk, sc, scs, scEnts, tg, List.length_cons, List.length_nil, and_self, implies_true, eq_self, Bool.and_self, decide_true, decide_false, Nat.zero_add, Nat.le_refl, reduceCtorEq, Nat.reduceAdd, Nat.reduceLT, Nat.reduceLeDiff, Nat.reduceEqDiff]⟩⟩

set_option maxRecDepth 100000 in
theorem ok13n (E : Addr → Option Value) (n t s : Int) (h : cenOk n t s = false) : Ok Try.prog E 13 [ri n, ri t, ri s] [] (.tup [.raw (.pointer none), ri 4]) [] := by
  refine ok_of_eng (pl := pl13) mixed (Γ13_sound E) Try.func13 rfl rfl (by kernel_rfl) (by simp) 100 (fun F hF => ?_)
  cases h2 : rules t s with
  | true =>
    have h1 : (decide (1 ≤ n) && decide (n ≤ 8)) = false := by rw [cenOk, h2] at h; simpa using h
    simp only [Try.f13, pl13, Γ13, c11r, c44, h1, h2, ri, eng, litSt, srunA, stepR, contA, r0, r1, r2, regC, sop, unw, strip, sev, tg, tset, tput, undefs, needs, opNeeds, sBin, ibin, shiftOp, gb, gslot, gdst, onth, wants, sPick, selC, sExtract, sCall, sUn, List.length_cons, List.length_nil, List.cons_append, List.nil_append, List.map_cons, List.map_nil, List.getElem?_cons_zero, List.getElem?_cons_succ, true_and, and_self, or_true, implies_true, eq_self, Bool.false_eq_true, Bool.not_true, Bool.not_false, Bool.cond_false, decide_true, Nat.zero_add, ↓reduceIte, Nat.reduceAdd, Nat.reduceSub]
    exact hF _ _ _ ⟨trivial, by simp only [Try.f13, ri, retP, sResults, sRes1, resK, retV, vwk, vwks, vwk1, hwk, sc, scs, tg, List.length_nil, and_self, eq_self, Bool.and_self, Nat.le_refl]⟩
  | false =>
    simp only [Try.f13, pl13, Γ13, c11r, c44, h2, ri, eng, litSt, srunA, stepR, contA, r0, r1, r2, regC, sop, unw, strip, sev, tg, tset, tput, undefs, needs, opNeeds, sBin, ibin, shiftOp, gb, gslot, gdst, onth, wants, sPick, selC, sExtract, sCall, sUn, List.length_cons, List.length_nil, List.cons_append, List.nil_append, List.map_cons, List.map_nil, List.getElem?_cons_zero, List.getElem?_cons_succ, true_and, and_self, or_true, implies_true, imp_self, eq_self, Bool.true_eq_false, Bool.false_eq_true, Bool.not_true, Bool.not_false, Bool.cond_true, decide_false, Nat.zero_add, ↓reduceIte, Nat.reduceAdd, Nat.reduceSub, Int.reduceEq]
    exact hF _ _ _ ⟨trivial, by simp only [Try.f13, ri, retP, sResults, sRes1, resK, retV, vwk, vwks, vwk1, hwk, sc, scs, tg, List.length_nil, and_self, eq_self, Bool.and_self, Nat.le_refl]⟩

def c13 : List SV → List AB → Res
  | [.raw (.int .i64 n), .raw (.int .i64 t), .raw (.int .i64 s)], H => match cenOk n t s with
    | true => ⟨True, ren (sig [] H.length) (.tup [.ptr 0 0, ri 0]), updH (sig [] H.length) H [] (encC (newC n t s))⟩
    | false => ⟨True, .tup [.raw (.pointer none), ri 4], H⟩
  | _, _ => no

theorem c13_sound {E : Addr → Option Value} {args : List SV} {H : List AB} (h : (c13 args H).pre) : Ok Try.prog E 13 args H (c13 args H).val (c13 args H).heap := by
  unfold c13 at h ⊢
  split at h
  · rename_i H0 n t s
    cases hn : cenOk n t s with
    | true => exact liftNew (ok13 E n t s hn) (fun _ => rfl) rfl _
    | false => exact lift0 (ok13n E n t s hn) (fun _ => rfl) rfl (fun _ => rfl) _
  · exact h.elim

end Go.Proofs.Ytmnpnnegnlhemaa.Eng
namespace Go.Proofs.Ytmnpnnegnlhemaa.Eng
open Go

set_option maxRecDepth 100000 in
theorem ok57 (E : Addr → Option Value) (a b c : Int) : Ok Try.prog E 57 [ri a, ri b, ri c] [] (rb (decide (b ≤ a) && decide (a ≤ c))) [] := by
  refine ok_of_eng (pl := pl0) mixed (Γ0_sound E) Try.func57 rfl rfl (by kernel_rfl) (by simp) 100 (fun F hF => ?_)
  simp only [Try.f57, eng, litSt, pl0, srunA_nil, srunA_b, stepR, contB_mk, r0, r1, r2, regC, sop, unw, strip, sev, tg, tset, tput, undefs, needs, opNeeds, sBin, ibin, shiftOp, gb, gslot, gdst, onth, wants, sPick, List.length_cons, List.length_nil, List.cons_append, List.nil_append, true_and, and_self, or_true, implies_true, imp_self, ite_self, eq_self, Bool.false_eq_true, Bool.cond_false_right, Nat.zero_add, Nat.reduceAdd, Nat.reduceSub]
  exact hF _ _ _ ⟨trivial, by simp only [Try.f57, retP, sResults, sRes1, resK, retV, vwk, vwk1, hwk, sc, tg, List.length_nil, and_self, eq_self, Nat.le_refl]⟩

def c57 : List SV → List AB → Res
  | [.raw (.int .i64 a), .raw (.int .i64 b), .raw (.int .i64 c)], H => ⟨True, .raw (.bool (decide (b ≤ a) && decide (a ≤ c))), H⟩
  | _, _ => no
theorem c57_sound {E : Addr → Option Value} {args : List SV} {H : List AB} (h : (c57 args H).pre) : Ok Try.prog E 57 args H (c57 args H).val (c57 args H).heap := by
  unfold c57 at h ⊢
  split at h
  · exact lift0 (ok57 E _ _ _) (fun _ => rfl) rfl (fun _ => rfl) H
  · exact h.elim
def Γ57 : Con := fun f args H => match f with
  | .func 57 => c57 args H
  | _ => no
theorem Γ57_sound (E : Addr → Option Value) : Con.Sound Try.prog E Γ57 := by
  intro f args H h
  unfold Γ57 at h ⊢
  split at h
  · exact c57_sound h
  · exact h.elim

set_option maxRecDepth 100000 in
theorem ok47 (E : Addr → Option Value) (a b c : Int) : Ok Try.prog E 47 [ri a, ri b, ri c] [] (rb (decide (b ≤ a) && decide (a ≤ c))) [] := by
  refine ok_of_eng (pl := pl0) mixed (Γ57_sound E) Try.func47 rfl rfl (by kernel_rfl) (by simp) 100 (fun F hF => ?_)
  simp only [Try.f47, Γ57, c57, ri, eng, litSt, pl0, srunA_nil, srunA_b, stepR, contB_mk, r0, regC, sop, unw, strip, sev, tg, tset, tput, undefs, needs, opNeeds, sCall, List.length_cons, List.length_nil, List.cons_append, List.nil_append, List.map_cons, List.map_nil, true_and, and_self, eq_self, Nat.zero_add, Nat.reduceAdd, Nat.reduceSub, ]
  exact hF _ _ _ ⟨trivial, by simp only [Try.f47, retP, sResults, sRes1, resK, retV, vwk, vwk1, hwk, sc, tg, List.length_nil, and_self, eq_self, Nat.le_refl]⟩
theorem c47_sound {E : Addr → Option Value} {args : List SV} {H : List AB} (h : (c57 args H).pre) : Ok Try.prog E 47 args H (c57 args H).val (c57 args H).heap := by
  unfold c57 at h ⊢
  split at h
  · exact lift0 (ok47 E _ _ _) (fun _ => rfl) rfl (fun _ => rfl) H
  · exact h.elim
def Γ47 : Con := fun f args H => match f with
  | .func 47 => c57 args H
  | _ => no
theorem Γ47_sound (E : Addr → Option Value) : Con.Sound Try.prog E Γ47 := by
  intro f args H h
  unfold Γ47 at h ⊢
  split at h
  · exact c47_sound h
  · exact h.elim

set_option maxRecDepth 100000 in
theorem ok15 (E : Addr → Option Value) (t s : Int) : Ok Try.prog E 15 [ri t, ri s] [] (rb (rules t s)) [] := by
  refine ok_of_eng (pl := pl0) mixed (Γ47_sound E) Try.func15 rfl rfl (by kernel_rfl) (by simp) 100 (fun F hF => ?_)
  simp only [Try.f15, Γ47, c57, ri, eng, litSt, pl0, srunA_nil, srunA_b, stepR, contB_mk, r0, r1, r2, regC, sop, unw, strip, sev, tg, tset, tput, undefs, needs, opNeeds, gb, gslot, gdst, onth, wants, sPick, sCall, List.length_cons, List.length_nil, List.cons_append, List.nil_append, List.map_cons, List.map_nil, true_and, and_self, implies_true, imp_self, ite_self, eq_self, Bool.cond_false_right, Nat.zero_add, Nat.reduceAdd, Nat.reduceSub, ]
  exact hF _ _ _ ⟨trivial, by simp only [Try.f15, rules, rb, retP, sResults, sRes1, resK, retV, vwk, vwk1, hwk, sc, tg, List.length_nil, and_self, eq_self, Nat.le_refl]⟩
def c15 : List SV → List AB → Res
  | [.raw (.int .i64 t), .raw (.int .i64 s)], H => ⟨True, .raw (.bool (rules t s)), H⟩
  | _, _ => no
theorem c15_sound {E : Addr → Option Value} {args : List SV} {H : List AB} (h : (c15 args H).pre) : Ok Try.prog E 15 args H (c15 args H).val (c15 args H).heap := by
  unfold c15 at h ⊢
  split at h
  · exact lift0 (ok15 E _ _) (fun _ => rfl) rfl (fun _ => rfl) H
  · exact h.elim
def Γ15 : Con := fun f args H => match f with
  | .func 15 => c15 args H
  | _ => no
theorem Γ15_sound (E : Addr → Option Value) : Con.Sound Try.prog E Γ15 := by
  intro f args H h
  unfold Γ15 at h ⊢
  split at h
  · exact c15_sound h
  · exact h.elim

def wt (t s : Int) : Int := match rules t s with | true => wait t s | false => 0
def wte (t s : Int) : Int := match rules t s with | true => 0 | false => 4
set_option maxRecDepth 100000 in
theorem ok12 (E : Addr → Option Value) (t s : Int) : Ok Try.prog E 12 [ri t, ri s] [] (.tup [ri (wt t s), ri (wte t s)]) [] := by
  refine ok_of_eng (pl := pl0) mixed (Γ15_sound E) Try.func12 rfl rfl (by kernel_rfl) (by simp) 100 (fun F hF => ?_)
  cases hr : rules t s with
  | true =>
    simp only [Try.f12, Γ15, c15, ri, hr, eng, litSt, pl0, srunA_nil, srunA_b, stepR, contB_mk, r0, regC, sop, unw, strip, sev, tg, tset, tput, undefs, needs, opNeeds, sBin, ibin, shiftOp, selC, sCall, sUn, List.length_cons, List.length_nil, List.cons_append, List.nil_append, List.map_cons, List.map_nil, true_and, and_self, or_true, not_false_eq_true, eq_self, ne_eq, Bool.false_eq_true, Bool.not_true, Nat.zero_add, Nat.reduceAdd, Nat.reduceSub, Int.reduceEq]
    refine hF _ _ _ ⟨trivial, ?_⟩
    simp only [Try.f12, wt, wte, hr, ri, retP, sResults, sRes1, resK, retV, vwk, vwks, vwk1, hwk, sc, scs, tg, List.length_nil, true_and, and_true, and_self, eq_self, Bool.and_self, Nat.le_refl, SV.raw.injEq, Value.int.injEq]
    simp [rules] at hr
    have q0 : IntKind.i64.wrap (1000 + s) = 1000 + s := w64 (by omega) (by omega)
    have q1 : 0 ≤ t * (1000 + s) := Int.mul_nonneg (by omega) (by omega)
    have q2 : t * (1000 + s) ≤ 100000 * 2000 := Int.mul_le_mul (by omega) (by omega) (by omega) (by omega)
    have q3 : IntKind.i64.wrap (t * (1000 + s)) = t * (1000 + s) := w64 (by omega) (by omega)
    have q4 : IntKind.i64.wrap (t * (1000 + s) + 999) = t * (1000 + s) + 999 := w64 (by omega) (by omega)
    have q6 : (t * (1000 + s) + 999).tdiv 1000 = (t * (1000 + s) + 999) / 1000 := Int.tdiv_eq_ediv_of_nonneg (by omega)
    have q7 : IntKind.i64.wrap ((t * (1000 + s) + 999) / 1000) = (t * (1000 + s) + 999) / 1000 := w64 (by omega) (by omega)
    have q8 : IntKind.i64.wrap ((t * (1000 + s) + 999) / 1000 + 1) = (t * (1000 + s) + 999) / 1000 + 1 := w64 (by omega) (by omega)
    rw [q0, q3, q4, q6, q7, q8]
    rfl
  | false =>
    simp only [Try.f12, Γ15, c15, ri, hr, eng, litSt, pl0, srunA_nil, srunA_b, stepR, contB_mk, r0, regC, sop, unw, strip, sev, tg, tset, tput, undefs, needs, opNeeds, selC, sCall, sUn, List.length_cons, List.length_nil, List.cons_append, List.nil_append, List.map_cons, List.map_nil, true_and, and_self, eq_self, Bool.not_false, Nat.zero_add, Nat.reduceAdd, Nat.reduceSub]
    exact hF _ _ _ ⟨trivial, by simp only [Try.f12, wt, wte, hr, ri, retP, sResults, sRes1, resK, retV, vwk, vwks, vwk1, hwk, sc, scs, tg, List.length_nil, and_self, eq_self, Bool.and_self, Nat.le_refl]⟩
def c12 : List SV → List AB → Res
  | [.raw (.int .i64 t), .raw (.int .i64 s)], H => ⟨True, .tup [.raw (.int .i64 (wt t s)), .raw (.int .i64 (wte t s))], H⟩
  | _, _ => no
theorem c12_sound {E : Addr → Option Value} {args : List SV} {H : List AB} (h : (c12 args H).pre) : Ok Try.prog E 12 args H (c12 args H).val (c12 args H).heap := by
  unfold c12 at h ⊢
  split at h
  · exact lift0 (ok12 E _ _) (fun _ => rfl) rfl (fun _ => rfl) H
  · exact h.elim
/-- The program's own Wait, in the same words. -/
theorem c11w_sound {E : Addr → Option Value} {args : List SV} {H : List AB} (h : (c12 args H).pre) : Ok Try.prog E 11 args H (c12 args H).val (c12 args H).heap := by
  unfold c12 at h ⊢
  split at h
  · rename_i H0 t s
    have := lift0 (ok11 E t s) (fun _ => rfl) rfl (fun _ => rfl) H
    unfold wt wte
    cases hr : rules t s with
    | true => simpa only [hr, if_true, ri] using this
    | false => simpa only [hr, Bool.false_eq_true, if_false, ri] using this
  · exact h.elim

set_option maxRecDepth 100000 in
theorem ok52 (E : Addr → Option Value) (k n m : Int) : Ok Try.prog E 52 [word k n m] [] (rb (valid k n m)) [] := by
  refine ok_of_eng (pl := pl0) mixed (Γ47_sound E) Try.func52 rfl rfl (by kernel_rfl) (by simp) 100 (fun F hF => ?_)
  simp only [Try.f52, Γ47, c57, word, ri, eng, litSt, pl0, srunA_nil, srunA_b, stepR, contB_mk, r0, r1, r2, regC, sop, unw, strip, sev, tg, tset, tput, undefs, needs, opNeeds, gb, gslot, gdst, onth, wants, sPick, sLoad, sField, sBox, sCall, cellsAt, hget, hd1, vcells, one, holeAt, idxAt, pushAt, List.length_cons, List.length_nil, List.cons_append, List.nil_append, List.map_cons, List.map_nil, List.take_succ_cons, List.take_zero, List.take_nil, List.drop_succ_cons, List.drop_zero, List.all_cons, List.all_nil, true_and, and_self, implies_true, imp_self, ite_self, not_false_eq_true, eq_self, ne_eq, Bool.and_self, Bool.cond_false_right, Nat.zero_add, Nat.add_zero, Nat.le_refl, reduceCtorEq, Value.oneCell', Nat.reduceAdd, Nat.reduceSub, Nat.reduceLeDiff, tk3, ta3, tf41_0, tf41_1, tf41_2]
  exact hF _ _ _ ⟨trivial, by simp only [Try.f52, rb, valid, retP, sResults, sRes1, resK, retV, vwk, vwk1, hwk, sc, tg, List.length_nil, and_self, eq_self, Nat.le_refl]⟩
theorem c52_sound {E : Addr → Option Value} {args : List SV} {H : List AB} (h : (c50 args H).pre) : Ok Try.prog E 52 args H (c50 args H).val (c50 args H).heap := by
  unfold c50 at h ⊢
  split at h
  · exact lift0 (ok52 E _ _ _) (fun _ => rfl) rfl (fun _ => rfl) H
  · exact h.elim

/-! ### A centre of the reference -/
structure RC where
  nodes : Int
  term : Int
  slow : Int
  clock : Int
  wanted : Int
  g0 : Int
  g1 : Int
  g2 : Int
  g3 : Int
  g4 : Int
  g5 : Int
  g6 : Int
  g7 : Int
  g8 : Int
  lease : Int
  number : Int
  fr : Int

def eRL (c : RC) : List SV := [ri c.nodes, ri c.term, ri c.slow, ri c.clock, ri c.wanted, ri c.g0, ri c.g1, ri c.g2, ri c.g3, ri c.g4, ri c.g5, ri c.g6, ri c.g7, ri c.g8, ri c.lease, ri c.number, ri c.fr]
def decR (l : List SV) : RC :=
  ⟨ivn (tg l 0), ivn (tg l 1), ivn (tg l 2), ivn (tg l 3), ivn (tg l 4), ivn (tg l 5), ivn (tg l 6), ivn (tg l 7), ivn (tg l 8), ivn (tg l 9), ivn (tg l 10), ivn (tg l 11), ivn (tg l 12), ivn (tg l 13), ivn (tg l 14), ivn (tg l 15), ivn (tg l 16)⟩

def RC.at (c : RC) (n : Nat) : Int := match n with
  | 0 => c.g0 | 1 => c.g1 | 2 => c.g2 | 3 => c.g3 | 4 => c.g4 | 5 => c.g5 | 6 => c.g6 | 7 => c.g7 | 8 => c.g8 | _ => 0
def RC.put (c : RC) (n : Nat) (m : Int) : RC := match n with
  | 0 => { c with g0 := m } | 1 => { c with g1 := m } | 2 => { c with g2 := m } | 3 => { c with g3 := m } | 4 => { c with g4 := m } | 5 => { c with g5 := m } | 6 => { c with g6 := m } | 7 => { c with g7 := m } | 8 => { c with g8 := m } | _ => c

def onR (f : RC → SV) (l : List SV) (H : List AB) : Res := ⟨l = eRL (decR l), f (decR l), H⟩
theorem onR_sound {E : Addr → Option Value} {fn : FuncId} {args : List SV} {f : RC → SV} {l : List SV} {H : List AB} (hok : ∀ c, Ok Try.prog E fn (.agg (eRL c) :: args) [] (f c) [])
    (ha : ∀ τ : Nat → Nat, rens τ args = args) (hs : scs 0 args = true) (hv : ∀ c (τ : Nat → Nat), ren τ (f c) = f c) (h : (onR f l H).pre) : Ok Try.prog E fn (.agg l :: args) H (onR f l H).val (onR f l H).heap := by
  change l = eRL (decR l) at h
  have := lift0 (hok (decR l)) (fun τ => by simp only [rens, ren, ha]; rfl) (by simp only [scs, sc, hs]; rfl) (hv _) H
  rwa [← h] at this

def ΓR : Con := fun f args H => match f with
  | .func 47 => c57 args H
  | .func 52 => c50 args H
  | .func 12 => c12 args H
  | _ => no
theorem ΓR_sound (E : Addr → Option Value) : Con.Sound Try.prog E ΓR := by
  intro f args H h
  unfold ΓR at h ⊢
  split at h
  · exact c47_sound h
  · exact c52_sound h
  · exact c12_sound h
  · exact h.elim

def RC.inW (c : RC) (k : Int) : Bool := decide (0 ≤ k) && decide (k ≤ c.nodes)
def RC.want (c : RC) (k : Int) : RC := match c.inW k with | true => { c with wanted := k } | false => c
def RC.wantE (c : RC) (k : Int) : Int := match c.inW k with | true => 0 | false => 7
def pl30 : Nat → Plan
  | _ => []
set_option maxRecDepth 100000 in
theorem ok30 (E : Addr → Option Value) (c : RC) (k : Int) : Ok Try.prog E 30 [.agg (eRL c), ri k] [] (.tup [.agg (eRL (c.want k)), ri (c.wantE k)]) [] := by
  refine ok_of_eng (pl := pl30) mixed (ΓR_sound E) Try.func30 rfl rfl (by kernel_rfl) (by simp) 100 (fun F hF => ?_)
  cases h : c.inW k with
  | true =>
    have h' : (decide (0 ≤ k) && decide (k ≤ c.nodes)) = true := h
    simp only [Try.f30, pl30, ΓR, c57, eRL, h', ri, eng, litSt, srunA_nil, srunA_b, stepR, contB_mk, r0, regC, sop, unw, strip, sev, tg, tset, tput, undefs, needs, opNeeds, selC, sLoad, sStore, sField, sNew, sAlloc, sBox, sCall, sUn, cellsAt, hget, hset, hd1, vcells, one, splice, holeAt, idxAt, pushAt, List.length_cons, List.length_nil, List.cons_append, List.nil_append, List.append_nil, List.map_cons, List.map_nil, List.take_succ_cons, List.take_zero, List.take_nil, List.drop_succ_cons, List.drop_zero, List.drop_nil, List.all_cons, List.all_nil, true_and, and_self, not_false_eq_true, eq_self, ne_eq, Bool.not_true, Bool.and_self, Nat.zero_add, Nat.add_zero, Nat.le_refl, reduceCtorEq, Value.oneCell', Nat.reduceAdd, Nat.reduceSub, Nat.reduceLeDiff, tk3, ts3, ta3, tk59, ts59, ta59, tz59, tf59_0, tf59_4]
    exact hF _ _ _ ⟨trivial, by simp only [Try.f30, eRL, RC.want, RC.wantE, h, ri, retP, sResults, sRes1, resK, retV, vwk, vwks, vwk1, hwk, sc, scs, tg, sLoad, cellsAt, hget, List.length_cons, List.length_nil, List.take_succ_cons, List.take_nil, List.drop_zero, and_self, eq_self, Bool.and_self, Nat.zero_add, Nat.le_refl, Nat.reduceAdd, tk59, ts59, ta59]⟩
  | false =>
    have h' : (decide (0 ≤ k) && decide (k ≤ c.nodes)) = false := h
    simp only [Try.f30, pl30, ΓR, c57, eRL, h', ri, eng, litSt, srunA_nil, srunA_b, stepR, contB_mk, r0, regC, sop, unw, strip, sev, tg, tset, tput, undefs, needs, opNeeds, selC, sLoad, sStore, sField, sNew, sAlloc, sBox, sCall, sUn, cellsAt, hget, hset, hd1, vcells, one, splice, holeAt, idxAt, pushAt, List.length_cons, List.length_nil, List.cons_append, List.nil_append, List.append_nil, List.map_cons, List.map_nil, List.take_succ_cons, List.take_zero, List.take_nil, List.drop_succ_cons, List.drop_zero, List.drop_nil, List.all_cons, List.all_nil, true_and, and_self, not_false_eq_true, eq_self, ne_eq, Bool.not_false, Bool.and_self, Nat.zero_add, Nat.add_zero, Nat.le_refl, reduceCtorEq, Value.oneCell', Nat.reduceAdd, Nat.reduceSub, Nat.reduceLeDiff, tk3, ta3, tk59, ts59, ta59, tz59, tf59_0]
    exact hF _ _ _ ⟨trivial, by simp only [Try.f30, eRL, RC.want, RC.wantE, h, ri, retP, sResults, sRes1, resK, retV, vwk, vwks, vwk1, hwk, sc, scs, tg, sLoad, cellsAt, hget, List.length_cons, List.length_nil, List.take_succ_cons, List.take_nil, List.drop_zero, and_self, eq_self, Bool.and_self, Nat.zero_add, Nat.le_refl, Nat.reduceAdd, tk59, ts59, ta59]⟩

def RC.brk (c : RC) : RC := { c with lease := -1, number := 0, fr := c.clock }
def pl34 : Nat → Plan
  | _ => []
set_option maxRecDepth 100000 in
theorem ok34 (E : Addr → Option Value) (c : RC) : Ok Try.prog E 34 [.agg (eRL c)] [] (.agg (eRL c.brk)) [] := by
  refine ok_of_eng (pl := pl34) mixed (ΓR_sound E) Try.func34 rfl rfl (by kernel_rfl) (by simp) 100 (fun F hF => ?_)
  simp only [Try.f34, pl34, eRL, ri, eng, litSt, srunA_nil, srunA_b, stepR, contB_mk, r0, regC, sop, unw, strip, sev, tg, tset, tput, undefs, needs, opNeeds, sLoad, sStore, sField, sNew, sAlloc, sBox, cellsAt, hget, hset, hd1, vcells, one, splice, holeAt, idxAt, pushAt, List.length_cons, List.length_nil, List.cons_append, List.nil_append, List.append_nil, List.map_cons, List.map_nil, List.take_succ_cons, List.take_zero, List.take_nil, List.drop_succ_cons, List.drop_zero, List.drop_nil, List.all_cons, List.all_nil, true_and, and_self, not_false_eq_true, eq_self, ne_eq, Bool.and_self, Nat.zero_add, Nat.le_refl, reduceCtorEq, Value.oneCell', Nat.reduceAdd, Nat.reduceSub, Nat.reduceLeDiff, Int.reduceNeg, tk3, ts3, ta3, tk59, ts59, ta59, tz59, tf59_3, tf59_6, tf59_7, tf59_8]
  exact hF _ _ _ ⟨trivial, by simp only [Try.f34, eRL, RC.brk, ri, retP, sResults, sRes1, resK, retV, vwk, vwks, vwk1, hwk, sc, scs, tg, sLoad, cellsAt, hget, List.length_cons, List.length_nil, List.take_succ_cons, List.take_nil, List.drop_zero, and_self, eq_self, Bool.and_self, Nat.zero_add, Nat.le_refl, Nat.reduceAdd, Int.reduceNeg, tk59, ts59, ta59]⟩

def RC.out (c : RC) : Bool := !decide (c.lease = 0) && decide (IntKind.i64.wrap (c.fr + wt c.term c.slow) ≤ IntKind.i64.wrap (c.clock + 1))
def RC.tick (c : RC) : RC := match c.out with | true => { c with clock := IntKind.i64.wrap (c.clock + 1), lease := 0 } | false => { c with clock := IntKind.i64.wrap (c.clock + 1) }
def pl36 : Nat → Plan
  | _ => []

set_option maxRecDepth 100000 in
theorem ok36 (E : Addr → Option Value) (c : RC) : Ok Try.prog E 36 [.agg (eRL c)] [] (.agg (eRL c.tick)) [] := by
  refine ok_of_eng (pl := pl36) mixed (ΓR_sound E) Try.func36 rfl rfl (by kernel_rfl) (by simp) 100 (fun F hF => ?_)
  cases h : c.out with
  | true =>
    have h' : (!decide (c.lease = 0) && decide (IntKind.i64.wrap (c.fr + wt c.term c.slow) ≤ IntKind.i64.wrap (c.clock + 1))) = true := h
    simp only [Try.f36, pl36, ΓR, c12, eRL, h', ri, eng, litSt, srunA_nil, srunA_b, stepR, contB_mk, r0_mk, r1_mk, r2_mk, regC_mk, sop, unw, strip, sev, tg, tset, tput, undefs, needs, opNeeds, sBin, ibin, shiftOp, gb, gslot, gdst, onth, wants, sPick, selC, sLoad, sStore, sExtract, sField, sNew, sAlloc, sBox, sCall, cellsAt, hget, hset, hd1, vcells, one, splice, holeAt, idxAt, pushAt, List.length_cons, List.length_nil, List.cons_append, List.nil_append, List.append_nil, List.map_cons, List.map_nil, List.take_succ_cons, List.take_zero, List.take_nil, List.drop_succ_cons, List.drop_zero, List.drop_nil, List.all_cons, List.all_nil, List.getElem?_cons_zero, List.getElem?_cons_succ, true_and, and_true, and_self, or_true, implies_true, forall_const, imp_self, ite_self, not_false_eq_true, eq_self, ne_eq, Bool.false_eq_true, Bool.and_self, Bool.cond_false_right, Nat.zero_add, Nat.le_refl, reduceCtorEq, Value.oneCell', Nat.reduceAdd, Nat.reduceSub, Nat.reduceLeDiff, tk3, ts3, ta3, tk59, ts59, ta59, tz59, tf59_1, tf59_2, tf59_3, tf59_6, tf59_8]
    exact hF _ _ _ ⟨trivial, by simp only [Try.f36, eRL, RC.tick, h, ri, retP, sResults, sRes1, resK, retV, vwk, vwks, vwk1, hwk, sc, scs, tg, sLoad, cellsAt, hget, List.length_cons, List.length_nil, List.take_succ_cons, List.take_nil, List.drop_zero, and_self, eq_self, Bool.and_self, Nat.zero_add, Nat.le_refl, Nat.reduceAdd, tk59, ts59, ta59]⟩
  | false =>
    have h' : (!decide (c.lease = 0) && decide (IntKind.i64.wrap (c.fr + wt c.term c.slow) ≤ IntKind.i64.wrap (c.clock + 1))) = false := h
    simp only [Try.f36, pl36, ΓR, c12, eRL, h', ri, eng, litSt, srunA_nil, srunA_b, stepR, contB_mk, r0_mk, r1_mk, r2_mk, regC_mk, sop, unw, strip, sev, tg, tset, tput, undefs, needs, opNeeds, sBin, ibin, shiftOp, gb, gslot, gdst, onth, wants, sPick, selC, sLoad, sStore, sExtract, sField, sNew, sAlloc, sBox, sCall, cellsAt, hget, hset, hd1, vcells, one, splice, holeAt, idxAt, pushAt, List.length_cons, List.length_nil, List.cons_append, List.nil_append, List.append_nil, List.map_cons, List.map_nil, List.take_succ_cons, List.take_zero, List.take_nil, List.drop_succ_cons, List.drop_zero, List.drop_nil, List.all_cons, List.all_nil, List.getElem?_cons_zero, List.getElem?_cons_succ, true_and, and_true, and_self, or_true, implies_true, forall_const, imp_self, ite_self, not_false_eq_true, eq_self, ne_eq, Bool.false_eq_true, Bool.and_self, Bool.cond_false_right, Nat.zero_add, Nat.le_refl, reduceCtorEq, Value.oneCell', Nat.reduceAdd, Nat.reduceSub, Nat.reduceLeDiff, tk3, ts3, ta3, tk59, ts59, ta59, tz59, tf59_1, tf59_2, tf59_3, tf59_6, tf59_8]
    exact hF _ _ _ ⟨trivial, by simp only [Try.f36, eRL, RC.tick, h, ri, retP, sResults, sRes1, resK, retV, vwk, vwks, vwk1, hwk, sc, scs, tg, sLoad, cellsAt, hget, List.length_cons, List.length_nil, List.take_succ_cons, List.take_nil, List.drop_zero, and_self, eq_self, Bool.and_self, Nat.zero_add, Nat.le_refl, Nat.reduceAdd, tk59, ts59, ta59]⟩

def RC.free (c : RC) : Bool := decide (c.lease = 0)
def RC.since (c : RC) : Int := match c.free with | true => 0 | false => c.fr
def pl38 : Nat → Plan
  | _ => []
set_option maxRecDepth 100000 in
theorem ok38 (E : Addr → Option Value) (c : RC) : Ok Try.prog E 38 [.agg (eRL c)] [] (.tup [ri c.lease, ri c.since]) [] := by
  refine ok_of_eng (pl := pl38) mixed (ΓR_sound E) Try.func38 rfl rfl (by kernel_rfl) (by simp) 100 (fun F hF => ?_)
  cases h : c.free with
  | true =>
    have h' : decide (c.lease = 0) = true := h
    have e : c.lease = 0 := by simpa using h'
    simp only [Try.f38, pl38, eRL, h', ri, eng, litSt, srunA_nil, srunA_b, stepR, contB_mk, r0, regC, sop, unw, strip, sev, tg, tset, tput, undefs, needs, opNeeds, sBin, ibin, shiftOp, selC, sLoad, sField, sBox, cellsAt, hget, hd1, vcells, one, holeAt, idxAt, pushAt, List.length_cons, List.length_nil, List.cons_append, List.nil_append, List.take_succ_cons, List.take_zero, List.drop_succ_cons, List.drop_zero, List.all_cons, List.all_nil, true_and, and_self, or_true, not_false_eq_true, eq_self, ne_eq, Bool.false_eq_true, Bool.and_self, Nat.zero_add, reduceCtorEq, Value.oneCell', Nat.reduceAdd, Nat.reduceSub, Nat.reduceLeDiff, tk3, ta3, tf59_6]
    exact hF _ _ _ ⟨trivial, by simp only [Try.f38, RC.since, h, e, ri, retP, sResults, sRes1, resK, retV, vwk, vwks, vwk1, hwk, sc, scs, tg, List.length_nil, and_self, eq_self, Bool.and_self, Nat.le_refl]⟩
  | false =>
    have h' : decide (c.lease = 0) = false := h
    simp only [Try.f38, pl38, eRL, h', ri, eng, litSt, srunA_nil, srunA_b, stepR, contB_mk, r0, regC, sop, unw, strip, sev, tg, tset, tput, undefs, needs, opNeeds, sBin, ibin, shiftOp, gdst, onth, selC, sLoad, sField, sBox, cellsAt, hget, hd1, vcells, one, holeAt, idxAt, pushAt, drawSt, preL, chkL, stp, nxtB_mk, pref_0, pref_b, allocOp, holes, List.length_cons, List.length_nil, List.cons_append, List.nil_append, List.append_nil, List.take_succ_cons, List.take_zero, List.take_nil, List.drop_succ_cons, List.drop_zero, List.all_cons, List.all_nil, true_and, and_self, or_true, not_false_eq_true, eq_self, ne_eq, Bool.false_eq_true, Bool.and_self, Nat.zero_add, Nat.le_refl, reduceCtorEq, Value.oneCell', Nat.reduceAdd, Nat.reduceSub, Nat.reduceLeDiff, tk3, ta3, tf59_6, tf59_8]
    exact hF _ _ _ ⟨trivial, by simp only [Try.f38, RC.since, h, ri, retP, sResults, sRes1, resK, retV, vwk, vwks, vwk1, hwk, sc, scs, tg, List.length_nil, and_self, eq_self, Bool.and_self, Nat.le_refl]⟩

end Go.Proofs.Ytmnpnnegnlhemaa.Eng
namespace Go.Proofs.Ytmnpnnegnlhemaa.Eng
open Go

theorem Cen.eta (c : Cen) : (⟨c.now, c.node, c.number, c.since, c.wait, c.wanted, c.n, c.gr⟩ : Cen) = c := rfl
theorem Nod.eta (x : Nod) : (⟨x.now, x.number, x.term, x.en, x.last, x.off, x.len, x.an, x.av⟩ : Nod) = x := rfl

def Cen.holds (c : Cen) : Bool := decide (c.node = 0)
def Cen.wantE (c : Cen) (k : Int) : Int := if (decide (0 ≤ k) && decide (k ≤ IntKind.i64.wrap (c.n - 1))) = true then 0 else 7
def Cen.ans (c : Cen) (k n m : Int) : SV := .tup [c.says k n m, ri (c.err k n m)]
def Nod.holds (x : Nod) : Bool := decide (x.now < x.en)
def Nod.askA (x : Nod) : SV := .tup [x.askW, ri (if x.full = true then 6 else 0)]
def Nod.retA (x : Nod) : SV := .tup [x.retW, ri (if decide (x.last = 0) = true then 9 else 0)]
def Nod.hearE (x : Nod) (k n m : Int) : Int := if x.mine k n m = true then 0 else 2

/-- Methods of centres and nodes. -/
def cM : Con := fun f args H => match f with
  | .func 12 => c12 args H
  | .func 11 => c12 args H
  | .func 13 => c13 args H
  | .func 14 => c14 args H
  | .func 15 => c15 args H
  | .func 17 => match args with
    | [.ptr i 0] => onNat 0 (fun x => (x.askA, encN2 x.ask)) Nod.room H i
    | _ => no
  | .func 19 => match args with
    | [.ptr i 0, .agg [.raw (.int .i64 k), .raw (.int .i64 n), .raw (.int .i64 m)]] => onNat 0 (fun x => (.raw (.int .i64 (x.hearE k n m)), encN (x.hear k n m))) Nod.room H i
    | _ => no
  | .func 21 => match args with
    | [.ptr i 0] => onNat 0 (fun x => (.raw (.int .i64 0), encN x.fall)) allN H i
    | _ => no
  | .func 23 => match args with
    | [.ptr i 0] => onNat 0 (fun x => (x.retA, encN x.ret)) allN H i
    | _ => no
  | .func 25 => match args with
    | [.ptr i 0] => onNat 0 (fun x => (.raw (.int .i64 0), encN x.tk)) allN H i
    | _ => no
  | .func 26 => match args with
    | [.ptr i 0] => onNat 0 (fun x => (.tup [.raw (.int .i64 x.now), .raw (.int .i64 x.en)], encN x)) allN H i
    | _ => no
  | .func 27 => match args with
    | [.ptr i 0] => onNat 0 (fun x => (.raw (.bool x.holds), encN x)) allN H i
    | _ => no
  | .func 29 => match args with
    | [.ptr i 0, .raw (.int .i64 k)] => onC (fun c => (.raw (.int .i64 (c.wantE k)), c.want k)) noneC H i
    | _ => no
  | .func 31 => match args with
    | [.ptr i 0, .agg [.raw (.int .i64 k), .raw (.int .i64 n), .raw (.int .i64 m)]] => onC (fun c => (c.ans k n m, c.hear k n m)) noneC H i
    | _ => no
  | .func 33 => match args with
    | [.ptr i 0] => onC (fun c => (.raw (.int .i64 0), c.brk)) noneC H i
    | _ => no
  | .func 35 => match args with
    | [.ptr i 0] => onC (fun c => (.raw (.int .i64 0), c.tick)) noneC H i
    | _ => no
  | .func 37 => match args with
    | [.ptr i 0] => onC (fun c => (.tup [.raw (.int .i64 c.node), .raw (.int .i64 c.since)], c)) noneC H i
    | _ => no
  | .func 39 => match args with
    | [.ptr i 0] => onC (fun c => (.raw (.bool c.holds), c)) noneC H i
    | _ => no
  | _ => no

theorem cM_sound (E : Addr → Option Value) : Con.Sound Try.prog E cM := by
  intro f args H h
  unfold cM at h ⊢
  split at h
  · exact c12_sound h
  · exact c11w_sound h
  · exact c13_sound h
  · exact c14_sound h
  · exact c15_sound h
  · split at h
    · exact onNat_sound (args := []) (fun x hx => ok17 E x hx) (fun _ => rfl) rfl h
    · exact h.elim
  · split at h
    · rename_i i k n m
      exact onNat_sound (args := [word k n m]) (fun x hx => ok19 E x k n m hx) (fun _ => rfl) rfl h
    · exact h.elim
  · split at h
    · exact onNat_sound (args := []) (fun x _ => ok21 E x) (fun _ => rfl) rfl h
    · exact h.elim
  · split at h
    · exact onNat_sound (args := []) (fun x _ => ok23 E x) (fun _ => rfl) rfl h
    · exact h.elim
  · split at h
    · exact onNat_sound (args := []) (fun x _ => ok25 E x) (fun _ => rfl) rfl h
    · exact h.elim
  · split at h
    · exact onNat_sound (args := []) (fun x _ => ok26 E x) (fun _ => rfl) rfl h
    · exact h.elim
  · split at h
    · exact onNat_sound (args := []) (fun x _ => ok27 E x) (fun _ => rfl) rfl h
    · exact h.elim
  · split at h
    · rename_i i k
      exact onC_sound (args := [ri k]) (fun c _ => ok29 E c k) (fun _ => rfl) rfl (fun _ _ => rfl) h
    · exact h.elim
  · split at h
    · rename_i i k n m
      exact onC_sound (args := [word k n m]) (fun c _ => ok31 E c k n m) (fun _ => rfl) rfl (fun _ _ => rfl) h
    · exact h.elim
  · split at h
    · exact onC_sound (args := []) (fun c _ => ok33 E c) (fun _ => rfl) rfl (fun _ _ => rfl) h
    · exact h.elim
  · split at h
    · exact onC_sound (args := []) (fun c _ => ok35 E c) (fun _ => rfl) rfl (fun _ _ => rfl) h
    · exact h.elim
  · split at h
    · exact onC_sound (args := []) (fun c _ => ok37 E c) (fun _ => rfl) rfl (fun _ _ => rfl) h
    · exact h.elim
  · split at h
    · exact onC_sound (args := []) (fun c _ => ok39 E c) (fun _ => rfl) rfl (fun _ _ => rfl) h
    · exact h.elim
  · exact h.elim

end Go.Proofs.Ytmnpnnegnlhemaa.Eng
namespace Go.Proofs.Ytmnpnnegnlhemaa.Eng
open Go

theorem eqf_one {P : Program} {w : World} {d : Nat} {xs ys : Array Value} {f : Field} {fs : List Field} {a b : Int} {s : Bool} (hn : f.name ≠ "_") (hp : P.plainKey f.type = true) (hu : P.underlying f.type = some (.int .i64))
    (ha : xs[f.offset]? = some (.int .i64 a)) (hb : ys[f.offset]? = some (.int .i64 b)) (hr : (Op.eqFields (d + 1) xs ys fs).run P w = .ok s w) : (Op.eqFields (d + 1) xs ys (f :: fs)).run P w = .ok (a == b && s) w := by
  have he : (Op.equalIn (d + 1) f.type (.int .i64 a) (.int .i64 b)).run P w = .ok (a == b) w := by
    simp [Op.equalIn, run_underlying hu]
  rw [Op.eqFields]
  simp only [if_pos hn, Sem.run_bind, run_part_plain w hp ha, run_part_plain w hp hb, he, Result.andThen_ok]
  cases h : (a == b)
  · simp
  · simpa using hr

theorem structEq3 {P : Program} {t : TypeId} {f0 f1 f2 : Field} (hu : P.underlying t = some (.struct #[f0, f1, f2])) (hs : P.stoodInHeld t = false) (hg : P.eqGuardType P.depth t = false)
    (n0 : f0.name ≠ "_") (n1 : f1.name ≠ "_") (n2 : f2.name ≠ "_") (p0 : P.plainKey f0.type = true) (p1 : P.plainKey f1.type = true) (p2 : P.plainKey f2.type = true)
    (u0 : P.underlying f0.type = some (.int .i64)) (u1 : P.underlying f1.type = some (.int .i64)) (u2 : P.underlying f2.type = some (.int .i64)) (o0 : f0.offset = 0) (o1 : f1.offset = 1) (o2 : f2.offset = 2) : StructEq P t 3 := by
  intro x y xs ys w hx hy ix iy
  refine ⟨fun op => ?_, ?_⟩
  · cases op <;> simp [eqGuard, hg]
  · match xs, hx with
    | [a, b, c], _ =>
      match ys, hy with
      | [a', b', c'], _ =>
        obtain ⟨a, rfl⟩ := ix a (by simp)
        obtain ⟨b, rfl⟩ := ix b (by simp)
        obtain ⟨c, rfl⟩ := ix c (by simp)
        obtain ⟨a', rfl⟩ := iy a' (by simp)
        obtain ⟨b', rfl⟩ := iy b' (by simp)
        obtain ⟨c', rfl⟩ := iy c' (by simp)
        have hf : P.fieldsOf t = #[f0, f1, f2] := by simp [Program.fieldsOf, hu]
        refine ⟨(a == a' && (b == b' && (c == c' && true))), by simp, ?_⟩
        show (Op.equalIn (9998 + 1 + 1) t _ _).run P w = _
        rw [run_equalIn_struct (P := P) w (9998 + 1) t _ _ (by rw [hf]; exact hu) hs, hf]
        refine eqf_one n0 p0 u0 (by simp [o0]) (by simp [o0]) (eqf_one n1 p1 u1 (by simp [o1]) (by simp [o1]) (eqf_one n2 p2 u2 (by simp [o2]) (by simp [o2]) ?_))
        simp [Op.eqFields]

theorem seq41 : StructEq Try.prog 41 3 := by
  have hu := Try.underlying41
  exact structEq3 hu (by kernel_rfl) (by kernel_rfl) (by decide) (by decide) (by decide) (by kernel_rfl) (by kernel_rfl) (by kernel_rfl) (by kernel_rfl) (by kernel_rfl) (by kernel_rfl) rfl rfl rfl
end Go.Proofs.Ytmnpnnegnlhemaa.Eng
namespace Go.Proofs.Ytmnpnnegnlhemaa.Eng
open Go

theorem aw1 : wt 10 100 = 12 := by rfl
theorem aw2 : wte 10 100 = 0 := by rfl
theorem aw3 : cenOk 2 10 100 = true := by rfl
theorem aw4 : nodeOk 1 10 = true := by rfl
theorem aw5 : nodeOk 2 10 = true := by rfl
theorem aw6 : newC 2 10 100 = ⟨0, 0, 0, 0, 12, 0, 3, fun _ => 0⟩ := by rfl
theorem aw7 : newN 1 10 = ⟨0, 1, 10, 0, 0, 0, 0, fun _ => 0, fun _ => 0⟩ := by rfl
theorem aw8 : newN 2 10 = ⟨0, 2, 10, 0, 0, 0, 0, fun _ => 0, fun _ => 0⟩ := by rfl
theorem aw9 : Cen.holds ⟨0, 0, 0, 0, 12, 0, 3, fun _ => 0⟩ = true := by rfl
theorem aw10 : Nod.holds ⟨0, 1, 10, 0, 0, 0, 0, fun _ => 0, fun _ => 0⟩ = false := by rfl
theorem aw11 : Cen.want ⟨0, 0, 0, 0, 12, 0, 3, fun _ => 0⟩ 1 = ⟨0, 0, 0, 0, 12, 1, 3, fun _ => 0⟩ := by rfl
theorem aw12 : Nod.ask ⟨0, 1, 10, 0, 0, 0, 0, fun _ => 0, fun _ => 0⟩ = ⟨0, 1, 10, 0, 1, 0, 1, fun _ => 1, fun _ => 0⟩ := by
  have w1 : IntKind.i64.wrap 1 = 1 := by decide
  simp [Nod.ask, Nod.full, Nod.add, w1]
theorem aw13 : Nod.askA ⟨0, 1, 10, 0, 0, 0, 0, fun _ => 0, fun _ => 0⟩ = .tup [word 1 1 1, ri 0] := by rfl
theorem aw14 : Cen.ans ⟨0, 0, 0, 0, 12, 1, 3, fun _ => 0⟩ 1 1 1 = .tup [word 2 1 1, ri 0] := by rfl
theorem aw15 : Cen.hear ⟨0, 0, 0, 0, 12, 1, 3, fun _ => 0⟩ 1 1 1 = ⟨0, 1, 1, 0, 12, 1, 3, fun j => if j = 1 then 1 else 0⟩ := by rfl
theorem aw16 : Nod.hear ⟨0, 1, 10, 0, 1, 0, 1, fun _ => 1, fun _ => 0⟩ 2 1 1 = ⟨0, 1, 10, 10, 1, 1, 0, fun _ => 1, fun _ => 0⟩ := by rfl
theorem aw17 : Nod.hearE ⟨0, 1, 10, 0, 1, 0, 1, fun _ => 1, fun _ => 0⟩ 2 1 1 = 0 := by rfl
theorem aw18 : Nod.ask ⟨0, 2, 10, 0, 0, 0, 0, fun _ => 0, fun _ => 0⟩ = ⟨0, 2, 10, 0, 1, 0, 1, fun _ => 1, fun _ => 0⟩ := by
  have w1 : IntKind.i64.wrap 1 = 1 := by decide
  simp [Nod.ask, Nod.full, Nod.add, w1]
theorem aw19 : Nod.askA ⟨0, 2, 10, 0, 0, 0, 0, fun _ => 0, fun _ => 0⟩ = .tup [word 1 2 1, ri 0] := by rfl
theorem aw20 : Cen.ans ⟨0, 1, 1, 0, 12, 1, 3, fun j => if j = 1 then 1 else 0⟩ 1 2 1 = .tup [word 0 0 0, ri 0] := by rfl
theorem aw21 : Cen.hear ⟨0, 1, 1, 0, 12, 1, 3, fun j => if j = 1 then 1 else 0⟩ 1 2 1 = ⟨0, 1, 1, 0, 12, 1, 3, fun j => if j = 2 then 1 else if j = 1 then 1 else 0⟩ := by rfl
theorem aw22 : Nod.holds ⟨0, 1, 10, 10, 1, 1, 0, fun _ => 1, fun _ => 0⟩ = true := by rfl
theorem aw23 : Cen.holds ⟨0, 1, 1, 0, 12, 1, 3, fun j => if j = 2 then 1 else if j = 1 then 1 else 0⟩ = false := by rfl
theorem aw24 : Nod.holds ⟨0, 2, 10, 0, 1, 0, 1, fun _ => 1, fun _ => 0⟩ = false := by rfl
theorem aw25 : Nod.retA ⟨0, 1, 10, 10, 1, 1, 0, fun _ => 1, fun _ => 0⟩ = .tup [word 3 1 1, ri 0] := by rfl
theorem aw26 : Nod.ret ⟨0, 1, 10, 10, 1, 1, 0, fun _ => 1, fun _ => 0⟩ = ⟨0, 1, 10, 0, 1, 0, 0, fun _ => 1, fun _ => 0⟩ := by rfl
theorem aw27 : Nod.holds ⟨0, 1, 10, 0, 1, 0, 0, fun _ => 1, fun _ => 0⟩ = false := by rfl
theorem aw28 : Cen.hear ⟨0, 1, 1, 0, 12, 1, 3, fun j => if j = 2 then 1 else if j = 1 then 1 else 0⟩ 3 1 1 = ⟨0, 0, 0, 0, 12, 1, 3, fun j => if j = 1 then 1 else if j = 2 then 1 else if j = 1 then 1 else 0⟩ := by rfl
theorem aw29 : Cen.ans ⟨0, 1, 1, 0, 12, 1, 3, fun j => if j = 2 then 1 else if j = 1 then 1 else 0⟩ 3 1 1 = .tup [word 0 0 0, ri 0] := by rfl
theorem aw30 : Cen.holds ⟨0, 0, 0, 0, 12, 1, 3, fun j => if j = 1 then 1 else if j = 2 then 1 else if j = 1 then 1 else 0⟩ = true := by rfl

theorem aw31 : Cen.wantE ⟨0, 0, 0, 0, 12, 0, 3, fun _ => 0⟩ 1 = 0 := by rfl

theorem c13_aw (H : List AB) : c13 [.raw (.int .i64 2), .raw (.int .i64 10), .raw (.int .i64 100)] H = ⟨True, ren (sig [] H.length) (.tup [.ptr 0 0, ri 0]), updH (sig [] H.length) H [] (encC ⟨0, 0, 0, 0, 12, 0, 3, fun _ => 0⟩)⟩ := by
  simp only [c13, aw3, aw6]
theorem c14_aw1 (H : List AB) : c14 [.raw (.int .i64 1), .raw (.int .i64 10)] H = ⟨True, ren (sig [] H.length) (.tup [.ptr 0 0, ri 0]), updH (sig [] H.length) H [] (encN ⟨0, 1, 10, 0, 0, 0, 0, fun _ => 0, fun _ => 0⟩)⟩ := by
  simp only [c14, aw4, aw7]
theorem c14_aw2 (H : List AB) : c14 [.raw (.int .i64 2), .raw (.int .i64 10)] H = ⟨True, ren (sig [] H.length) (.tup [.ptr 0 0, ri 0]), updH (sig [] H.length) H [] (encN ⟨0, 2, 10, 0, 0, 0, 0, fun _ => 0, fun _ => 0⟩)⟩ := by
  simp only [c14, aw5, aw8]

def pl16 : Nat → Plan
  | _ => []
set_option maxHeartbeats 4000000 in
set_option maxRecDepth 100000 in
theorem ok16 (E : Addr → Option Value) : Ok Try.prog E 16 [] [] (rb true) [] := by
  refine ok_of_eng (pl := pl16) mixed (cM_sound E) Try.func16 rfl rfl (by kernel_rfl) (by simp) 200 (fun F hF => ?_)
  simp only [Try.f16, pl16, cM, c12, c13_aw, c14_aw1, c14_aw2, onC, onNat, noneC, allN, Nod.room, sigC, decC, decC2, sigN, decN, decN2, lix, mix, ivn, lof, lln, el0, el1, cellOf, lstN, lstF, nodupB, encC, encN, encN2, word, aw1, aw2, aw9, aw10, aw11, aw12, aw13, aw14, aw15, aw16, aw17, aw18, aw19, aw20, aw21, aw22, aw23, aw24, aw25, aw26, aw27, aw28, aw29, aw30, aw31, ri, rb, renB, rens, ren, renEnts, sig, subH, updH, eng, litSt, srunA_nil, srunA_b, stepR, contB_mk, r0, r1, r2, regC, sop, unw, strip, sev, tg, tset, tput, undefs, needs, opNeeds, sBin, ibin, shiftOp, gb, gslot, gdst, onth, wants, sPick, selC, sLoad, sStore, sExtract, sNew, sAlloc, sFill, sBuild, sCall, sUn, cellsAt, hget, hset, hd1, vcells, one, whole, splice, holeAt, idxAt, pushAt, nth, intsEq, List.length_cons, List.length_nil, List.cons_append, List.nil_append, List.append_nil, List.map_cons, List.map_nil, List.take_succ_cons, List.take_zero, List.take_nil, List.drop_succ_cons, List.drop_zero, List.drop_nil, List.all_cons, List.all_nil, List.contains_cons, List.contains_nil, List.getElem?_cons_zero, List.getElem?_cons_succ, List.getElem?_nil, true_and, and_true, and_self, or_true, implies_true, forall_const, eq_self, Bool.true_eq_false, Bool.false_eq_true, Bool.not_true, Bool.not_false, Bool.or_false, Bool.and_self, Bool.cond_true, Bool.cond_false, decide_true, Nat.zero_add, Nat.add_zero, Nat.sub_zero, Nat.le_refl, Option.getD_some, Option.getD_none, Value.oneCell', ↓reduceIte, Nat.reduceAdd, Nat.reduceSub, Nat.reduceLT, Nat.reduceLeDiff, Nat.reduceBEq, tp27, tp30, tk41, ts41, ta41, tz41, tpl41]
  exact ⟨seq41, seq41, hF _ _ _ ⟨trivial, by simp only [Try.f16, rb, retP, sResults, sRes1, resK, retV, vwk, vwk1, hwk, sc, tg, List.length_nil, and_self, eq_self, Nat.le_refl]⟩⟩

def c16 : List SV → List AB → Res
  | [], H => ⟨True, .raw (.bool true), H⟩
  | _, _ => no
theorem c16_sound {E : Addr → Option Value} {args : List SV} {H : List AB} (h : (c16 args H).pre) : Ok Try.prog E 16 args H (c16 args H).val (c16 args H).heap := by
  unfold c16 at h ⊢
  split at h
  · exact lift0 (ok16 E) (fun _ => rfl) rfl (fun _ => rfl) H
  · exact h.elim

end Go.Proofs.Ytmnpnnegnlhemaa.Eng
