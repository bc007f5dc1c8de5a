/- Facts of the loaded program's table of types, each by the kernel. -/
import Derived.Test.YtmnpnnegnlhemaaEp
import Derived.Test.YtmnpnnegnlhemaaProg
namespace Go.Proofs.Ytmnpnnegnlhemaa.Eng
open Go
/-! Cuts: not by rfl, so that the kernel holds short steps against each other; contB lies above srunA, so that the kernel unfolds it first. -/
def hiN : Nat := (fun (_ : Program → (Addr → Option Value) → Con → List Oper → List Oper → Prop → List SV → List AB → St) => 0) srunA
def contB (k : Prop → List SV → List AB → St) (acc : Prop) (d : Option Tmp) (τ : List SV) (r : Res) : St := (fun (_ : Nat) => Res.casesOn (motive := fun _ => St) r (fun p v h => k (acc ∧ p) (tput τ d v) h)) hiN
theorem contB_mk (k : Prop → List SV → List AB → St) (acc : Prop) (d : Option Tmp) (τ : List SV) (p : Prop) (v : SV) (h : List AB) : contB k acc d τ ⟨p, v, h⟩ = k (acc ∧ p) (tput τ d v) h := rfl
theorem srunA_nil (P : Program) (E : Addr → Option Value) (Γ : Con) (ops : List Oper) (acc : Prop) (τ : List SV) (H : List AB) : srunA P E Γ ops [] acc τ H = ⟨acc, τ, H⟩ := of_eq_true (eq_self _)
theorem srunA_b (P : Program) (E : Addr → Option Value) (Γ : Con) (ops : List Oper) (o : Oper) (r : List Oper) (acc : Prop) (τ : List SV) (H : List AB) : srunA P E Γ ops (o :: r) acc τ H = contB (srunA P E Γ ops r) acc o.dst τ (stepR P E Γ ops none o τ H) := of_eq_true (eq_self _)
def hiY : Nat := (fun (_ : Program → (Addr → Option Value) → Con → List Oper → List Oper → Prop → List SV → List AB → St) => 0) srunY
def contY (k : Prop → List SV → List AB → St) (acc : Prop) (d : Option Tmp) (τ : List SV) (r : Res) : St := (fun (_ : Nat) => Res.casesOn (motive := fun _ => St) r (fun p v h => k (acc ∧ p) (tput τ d v) h)) hiY
theorem contY_mk (k : Prop → List SV → List AB → St) (acc : Prop) (d : Option Tmp) (τ : List SV) (p : Prop) (v : SV) (h : List AB) : contY k acc d τ ⟨p, v, h⟩ = k (acc ∧ p) (tput τ d v) h := rfl
theorem srunY_nil (P : Program) (E : Addr → Option Value) (Γ : Con) (ops : List Oper) (acc : Prop) (τ : List SV) (H : List AB) : srunY P E Γ ops [] acc τ H = ⟨acc, τ, H⟩ := of_eq_true (eq_self _)
theorem srunY_b (P : Program) (E : Addr → Option Value) (Γ : Con) (ops : List Oper) (o : Oper) (r : List Oper) (acc : Prop) (τ : List SV) (H : List AB) : srunY P E Γ ops (o :: r) acc τ H = contY (srunY P E Γ ops r) acc o.dst τ (stepY P E Γ ops o τ H) := of_eq_true (eq_self _)
def hiP : Nat := (fun (_ : Program → (Addr → Option Value) → Con → List Oper → Nat → List SV → List AB → Nat → List SV × List AB) => 0) pref
def nxtB (d : Option Tmp) (τ : List SV) (r : Res) : List SV × List AB := (fun (_ : Nat) => Res.casesOn (motive := fun _ => List SV × List AB) r (fun _ v h => (tput τ d v, h))) hiP
theorem nxtB_mk (d : Option Tmp) (τ : List SV) (p : Prop) (v : SV) (h : List AB) : nxtB d τ ⟨p, v, h⟩ = (tput τ d v, h) := rfl
theorem pref_0 (P : Program) (E : Addr → Option Value) (Γ : Con) (ops : List Oper) (b : Nat) (τ0 : List SV) (H0 : List AB) : pref P E Γ ops b τ0 H0 0 = (τ0, H0) := of_eq_true (eq_self _)
theorem pref_b (P : Program) (E : Addr → Option Value) (Γ : Con) (ops : List Oper) (b : Nat) (τ0 : List SV) (H0 : List AB) (i : Nat) : pref P E Γ ops b τ0 H0 (i + 1) = nxtB (gdst (onth ops i)) (pref P E Γ ops b τ0 H0 i).1 (stp P E Γ ops b i (pref P E Γ ops b τ0 H0 i).1 (pref P E Γ ops b τ0 H0 i).2) := of_eq_true (eq_self _)
theorem regC_mk (q : List SV → List AB → Prop) (p : Prop) (τ : List SV) (H : List AB) : regC q ⟨p, τ, H⟩ = (p ∧ q τ H) := rfl
theorem chk2_mt (v : SV) (h : List AB) (p : Prop) (v' : SV) (h' : List AB) : chk2 true v h ⟨p, v', h'⟩ = (p ∧ v' = v ∧ h' = h) := rfl
theorem chk2_mf (v : SV) (h : List AB) (p : Prop) (v' : SV) (h' : List AB) : chk2 false v h ⟨p, v', h'⟩ = (p ∧ v' = v ∧ True) := rfl
theorem r0_mk (n p : Prop) (v : SV) (h : List AB) : r0 n ⟨p, v, h⟩ = ⟨n ∧ p, v, h⟩ := rfl
theorem r2_mk (n : Prop) (g : Bool) (H : List AB) (p : Prop) (v : SV) (h : List AB) : r2 n g H ⟨p, v, h⟩ = ⟨n ∧ (g = true → p), .opt g v, if g = true then h else H⟩ := rfl
theorem r1_mk (P : Program) (E : Addr → Option Value) (Γ : Con) (q : Option Nat) (o : Oper) (τ : List SV) (H : List AB) (p : Prop) (g : Bool) : r1 P E Γ q o τ H (p, g) = r2 (p ∧ needs (sev τ) g (opNeeds o.op)) g H (sop P E Γ q H (sev τ) o.op) := rfl
theorem mixed : Try.prog.follows .mixedOrders = true := by kernel_rfl
theorem tk3 : tknown Try.prog 3 = true := by kernel_rfl
theorem ts3 : tsize Try.prog 3 = 1 := by kernel_rfl
theorem ta3 : tagg Try.prog 3 = false := by kernel_rfl
theorem tb3 : tbytes? Try.prog 3 = 8 := by kernel_rfl
theorem tz3 : tzero Try.prog 3 = some [.int .i64 0] := by kernel_rfl
theorem ti3 : tint Try.prog 3 = some .i64 := by kernel_rfl
theorem tk4 : tknown Try.prog 4 = true := by kernel_rfl
theorem ts4 : tsize Try.prog 4 = 1 := by kernel_rfl
theorem ta4 : tagg Try.prog 4 = false := by kernel_rfl
theorem tb4 : tbytes? Try.prog 4 = 1 := by kernel_rfl
theorem tz4 : tzero Try.prog 4 = some [.bool false] := by kernel_rfl
theorem tu4 : Try.prog.underlying 4 = some .bool := by kernel_rfl
theorem tk5 : tknown Try.prog 5 = true := by kernel_rfl
theorem ts5 : tsize Try.prog 5 = 1 := by kernel_rfl
theorem ta5 : tagg Try.prog 5 = false := by kernel_rfl
theorem tb5 : tbytes? Try.prog 5 = 1 := by kernel_rfl
theorem tz5 : tzero Try.prog 5 = some [.int .u8 0] := by kernel_rfl
theorem ti5 : tint Try.prog 5 = some .u8 := by kernel_rfl
theorem tk23 : tknown Try.prog 23 = true := by kernel_rfl
theorem ts23 : tsize Try.prog 23 = 3 := by kernel_rfl
theorem ta23 : tagg Try.prog 23 = true := by kernel_rfl
theorem tb23 : tbytes? Try.prog 23 = 24 := by kernel_rfl
theorem tz23 : tzero Try.prog 23 = some [.int .i64 0, .int .i64 0, .int .i64 0] := by kernel_rfl
theorem tf23_0 : tfield Try.prog 23 0 = some (0, 1, false) := by kernel_rfl
theorem tf23_1 : tfield Try.prog 23 1 = some (1, 1, false) := by kernel_rfl
theorem tf23_2 : tfield Try.prog 23 2 = some (2, 1, false) := by kernel_rfl
theorem tpl23 : tplaces Try.prog 23 = some [(0, 1), (1, 1), (2, 1)] := by kernel_rfl
theorem tk24 : tknown Try.prog 24 = true := by kernel_rfl
theorem ts24 : tsize Try.prog 24 = 1 := by kernel_rfl
theorem ta24 : tagg Try.prog 24 = false := by kernel_rfl
theorem tb24 : tbytes? Try.prog 24 = 8 := by kernel_rfl
theorem tz24 : tzero Try.prog 24 = some [.int .i64 0] := by kernel_rfl
theorem ti24 : tint Try.prog 24 = some .i64 := by kernel_rfl
theorem tk27 : tknown Try.prog 27 = true := by kernel_rfl
theorem ts27 : tsize Try.prog 27 = 1 := by kernel_rfl
theorem ta27 : tagg Try.prog 27 = false := by kernel_rfl
theorem tb27 : tbytes? Try.prog 27 = 8 := by kernel_rfl
theorem tz27 : tzero Try.prog 27 = some [.pointer none] := by kernel_rfl
theorem tp27 : tptr Try.prog 27 = true := by kernel_rfl
theorem tk30 : tknown Try.prog 30 = true := by kernel_rfl
theorem ts30 : tsize Try.prog 30 = 1 := by kernel_rfl
theorem ta30 : tagg Try.prog 30 = false := by kernel_rfl
theorem tb30 : tbytes? Try.prog 30 = 8 := by kernel_rfl
theorem tz30 : tzero Try.prog 30 = some [.pointer none] := by kernel_rfl
theorem tp30 : tptr Try.prog 30 = true := by kernel_rfl
theorem tk36 : tknown Try.prog 36 = true := by kernel_rfl
theorem ts36 : tsize Try.prog 36 = 1 := by kernel_rfl
theorem ta36 : tagg Try.prog 36 = false := by kernel_rfl
theorem tb36 : tbytes? Try.prog 36 = 24 := by kernel_rfl
theorem tz36 : tzero Try.prog 36 = some [.slice none 0 0] := by kernel_rfl
theorem te36 : telem Try.prog 36 = some 43 := by kernel_rfl
theorem tk37 : tknown Try.prog 37 = true := by kernel_rfl
theorem ts37 : tsize Try.prog 37 = 1 := by kernel_rfl
theorem ta37 : tagg Try.prog 37 = false := by kernel_rfl
theorem tb37 : tbytes? Try.prog 37 = 24 := by kernel_rfl
theorem tz37 : tzero Try.prog 37 = some [.slice none 0 0] := by kernel_rfl
theorem te37 : telem Try.prog 37 = some 102 := by kernel_rfl
theorem tk39 : tknown Try.prog 39 = true := by kernel_rfl
theorem ts39 : tsize Try.prog 39 = 6 := by kernel_rfl
theorem ta39 : tagg Try.prog 39 = true := by kernel_rfl
theorem tb39 : tbytes? Try.prog 39 = 64 := by kernel_rfl
theorem tz39 : tzero Try.prog 39 = some [.int .i64 0, .int .i64 0, .int .i64 0, .int .i64 0, .int .i64 0, .slice none 0 0] := by kernel_rfl
theorem tf39_0 : tfield Try.prog 39 0 = some (0, 1, false) := by kernel_rfl
theorem tf39_1 : tfield Try.prog 39 1 = some (1, 1, false) := by kernel_rfl
theorem tf39_2 : tfield Try.prog 39 2 = some (2, 1, false) := by kernel_rfl
theorem tf39_3 : tfield Try.prog 39 3 = some (3, 1, false) := by kernel_rfl
theorem tf39_4 : tfield Try.prog 39 4 = some (4, 1, false) := by kernel_rfl
theorem tf39_5 : tfield Try.prog 39 5 = some (5, 1, false) := by kernel_rfl
theorem tpl39 : tplaces Try.prog 39 = some [(0, 1), (1, 1), (2, 1), (3, 1), (4, 1), (5, 1)] := by kernel_rfl
theorem tk41 : tknown Try.prog 41 = true := by kernel_rfl
theorem ts41 : tsize Try.prog 41 = 3 := by kernel_rfl
theorem ta41 : tagg Try.prog 41 = true := by kernel_rfl
theorem tb41 : tbytes? Try.prog 41 = 24 := by kernel_rfl
theorem tz41 : tzero Try.prog 41 = some [.int .i64 0, .int .i64 0, .int .i64 0] := by kernel_rfl
theorem tf41_0 : tfield Try.prog 41 0 = some (0, 1, false) := by kernel_rfl
theorem tf41_1 : tfield Try.prog 41 1 = some (1, 1, false) := by kernel_rfl
theorem tf41_2 : tfield Try.prog 41 2 = some (2, 1, false) := by kernel_rfl
theorem tpl41 : tplaces Try.prog 41 = some [(0, 1), (1, 1), (2, 1)] := by kernel_rfl
theorem tk43 : tknown Try.prog 43 = true := by kernel_rfl
theorem ts43 : tsize Try.prog 43 = 5 := by kernel_rfl
theorem ta43 : tagg Try.prog 43 = true := by kernel_rfl
theorem tb43 : tbytes? Try.prog 43 = 40 := by kernel_rfl
theorem tz43 : tzero Try.prog 43 = some [.int .i64 0, .int .i64 0, .int .i64 0, .int .i64 0, .int .i64 0] := by kernel_rfl
theorem tf43_0 : tfield Try.prog 43 0 = some (0, 1, false) := by kernel_rfl
theorem tf43_1 : tfield Try.prog 43 1 = some (1, 1, false) := by kernel_rfl
theorem tf43_2 : tfield Try.prog 43 2 = some (2, 3, true) := by kernel_rfl
theorem tpl43 : tplaces Try.prog 43 = some [(0, 1), (1, 1), (2, 3)] := by kernel_rfl
theorem tk57 : tknown Try.prog 57 = true := by kernel_rfl
theorem ts57 : tsize Try.prog 57 = 9 := by kernel_rfl
theorem ta57 : tagg Try.prog 57 = true := by kernel_rfl
theorem tb57 : tbytes? Try.prog 57 = 72 := by kernel_rfl
theorem tz57 : tzero Try.prog 57 = some [.int .i64 0, .int .i64 0, .int .i64 0, .int .i64 0, .int .i64 0, .int .i64 0, .int .i64 0, .int .i64 0, .int .i64 0] := by kernel_rfl
theorem tr57 : tarr Try.prog 57 = some (9, 3) := by kernel_rfl
theorem tk59 : tknown Try.prog 59 = true := by kernel_rfl
theorem ts59 : tsize Try.prog 59 = 17 := by kernel_rfl
theorem ta59 : tagg Try.prog 59 = true := by kernel_rfl
theorem tb59 : tbytes? Try.prog 59 = 136 := by kernel_rfl
theorem tz59 : tzero Try.prog 59 = some [.int .i64 0, .int .i64 0, .int .i64 0, .int .i64 0, .int .i64 0, .int .i64 0, .int .i64 0, .int .i64 0, .int .i64 0, .int .i64 0, .int .i64 0, .int .i64 0, .int .i64 0, .int .i64 0, .int .i64 0, .int .i64 0, .int .i64 0] := by kernel_rfl
theorem tf59_0 : tfield Try.prog 59 0 = some (0, 1, false) := by kernel_rfl
theorem tf59_1 : tfield Try.prog 59 1 = some (1, 1, false) := by kernel_rfl
theorem tf59_2 : tfield Try.prog 59 2 = some (2, 1, false) := by kernel_rfl
theorem tf59_3 : tfield Try.prog 59 3 = some (3, 1, false) := by kernel_rfl
theorem tf59_4 : tfield Try.prog 59 4 = some (4, 1, false) := by kernel_rfl
theorem tf59_5 : tfield Try.prog 59 5 = some (5, 9, true) := by kernel_rfl
theorem tf59_6 : tfield Try.prog 59 6 = some (14, 1, false) := by kernel_rfl
theorem tf59_7 : tfield Try.prog 59 7 = some (15, 1, false) := by kernel_rfl
theorem tf59_8 : tfield Try.prog 59 8 = some (16, 1, false) := by kernel_rfl
theorem tpl59 : tplaces Try.prog 59 = some [(0, 1), (1, 1), (2, 1), (3, 1), (4, 1), (5, 9), (14, 1), (15, 1), (16, 1)] := by kernel_rfl
theorem tk69 : tknown Try.prog 69 = true := by kernel_rfl
theorem ts69 : tsize Try.prog 69 = 3 := by kernel_rfl
theorem ta69 : tagg Try.prog 69 = true := by kernel_rfl
theorem tb69 : tbytes? Try.prog 69 = 3 := by kernel_rfl
theorem tz69 : tzero Try.prog 69 = some [.int .u8 0, .int .u8 0, .int .u8 0] := by kernel_rfl
theorem tr69 : tarr Try.prog 69 = some (3, 5) := by kernel_rfl
theorem tk70 : tknown Try.prog 70 = true := by kernel_rfl
theorem ts70 : tsize Try.prog 70 = 1 := by kernel_rfl
theorem ta70 : tagg Try.prog 70 = false := by kernel_rfl
theorem tb70 : tbytes? Try.prog 70 = 24 := by kernel_rfl
theorem tz70 : tzero Try.prog 70 = some [.slice none 0 0] := by kernel_rfl
theorem te70 : telem Try.prog 70 = some 80 := by kernel_rfl
theorem tk71 : tknown Try.prog 71 = true := by kernel_rfl
theorem ts71 : tsize Try.prog 71 = 1 := by kernel_rfl
theorem ta71 : tagg Try.prog 71 = false := by kernel_rfl
theorem tb71 : tbytes? Try.prog 71 = 24 := by kernel_rfl
theorem tz71 : tzero Try.prog 71 = some [.slice none 0 0] := by kernel_rfl
theorem te71 : telem Try.prog 71 = some 30 := by kernel_rfl
theorem tk72 : tknown Try.prog 72 = true := by kernel_rfl
theorem ts72 : tsize Try.prog 72 = 1 := by kernel_rfl
theorem ta72 : tagg Try.prog 72 = false := by kernel_rfl
theorem tb72 : tbytes? Try.prog 72 = 24 := by kernel_rfl
theorem tz72 : tzero Try.prog 72 = some [.slice none 0 0] := by kernel_rfl
theorem te72 : telem Try.prog 72 = some 41 := by kernel_rfl
theorem tk73 : tknown Try.prog 73 = true := by kernel_rfl
theorem ts73 : tsize Try.prog 73 = 1 := by kernel_rfl
theorem ta73 : tagg Try.prog 73 = false := by kernel_rfl
theorem tb73 : tbytes? Try.prog 73 = 24 := by kernel_rfl
theorem tz73 : tzero Try.prog 73 = some [.slice none 0 0] := by kernel_rfl
theorem te73 : telem Try.prog 73 = some 3 := by kernel_rfl
theorem tk75 : tknown Try.prog 75 = true := by kernel_rfl
theorem ts75 : tsize Try.prog 75 = 6 := by kernel_rfl
theorem ta75 : tagg Try.prog 75 = true := by kernel_rfl
theorem tb75 : tbytes? Try.prog 75 = 112 := by kernel_rfl
theorem tz75 : tzero Try.prog 75 = some [.pointer none, .slice none 0 0, .slice none 0 0, .slice none 0 0, .slice none 0 0, .int .i64 0] := by kernel_rfl
theorem tf75_0 : tfield Try.prog 75 0 = some (0, 1, false) := by kernel_rfl
theorem tf75_1 : tfield Try.prog 75 1 = some (1, 1, false) := by kernel_rfl
theorem tf75_2 : tfield Try.prog 75 2 = some (2, 1, false) := by kernel_rfl
theorem tf75_3 : tfield Try.prog 75 3 = some (3, 1, false) := by kernel_rfl
theorem tf75_4 : tfield Try.prog 75 4 = some (4, 1, false) := by kernel_rfl
theorem tf75_5 : tfield Try.prog 75 5 = some (5, 1, false) := by kernel_rfl
theorem tpl75 : tplaces Try.prog 75 = some [(0, 1), (1, 1), (2, 1), (3, 1), (4, 1), (5, 1)] := by kernel_rfl
theorem tk80 : tknown Try.prog 80 = true := by kernel_rfl
theorem ts80 : tsize Try.prog 80 = 2 := by kernel_rfl
theorem ta80 : tagg Try.prog 80 = true := by kernel_rfl
theorem tb80 : tbytes? Try.prog 80 = 2 := by kernel_rfl
theorem tz80 : tzero Try.prog 80 = some [.int .u8 0, .int .u8 0] := by kernel_rfl
theorem tf80_0 : tfield Try.prog 80 0 = some (0, 1, false) := by kernel_rfl
theorem tf80_1 : tfield Try.prog 80 1 = some (1, 1, false) := by kernel_rfl
theorem tpl80 : tplaces Try.prog 80 = some [(0, 1), (1, 1)] := by kernel_rfl
theorem tk85 : tknown Try.prog 85 = true := by kernel_rfl
theorem ts85 : tsize Try.prog 85 = 1 := by kernel_rfl
theorem ta85 : tagg Try.prog 85 = true := by kernel_rfl
theorem tb85 : tbytes? Try.prog 85 = 8 := by kernel_rfl
theorem tz85 : tzero Try.prog 85 = some [.int .i64 0] := by kernel_rfl
theorem tf85_0 : tfield Try.prog 85 0 = some (0, 1, false) := by kernel_rfl
theorem tpl85 : tplaces Try.prog 85 = some [(0, 1)] := by kernel_rfl
theorem tk87 : tknown Try.prog 87 = true := by kernel_rfl
theorem ts87 : tsize Try.prog 87 = 3 := by kernel_rfl
theorem ta87 : tagg Try.prog 87 = true := by kernel_rfl
theorem tb87 : tbytes? Try.prog 87 = 24 := by kernel_rfl
theorem tz87 : tzero Try.prog 87 = some [.int .i64 0, .int .i64 0, .int .i64 0] := by kernel_rfl
theorem tf87_0 : tfield Try.prog 87 0 = some (0, 1, false) := by kernel_rfl
theorem tf87_1 : tfield Try.prog 87 1 = some (1, 1, false) := by kernel_rfl
theorem tf87_2 : tfield Try.prog 87 2 = some (2, 1, false) := by kernel_rfl
theorem tpl87 : tplaces Try.prog 87 = some [(0, 1), (1, 1), (2, 1)] := by kernel_rfl
theorem tk88 : tknown Try.prog 88 = true := by kernel_rfl
theorem ts88 : tsize Try.prog 88 = 1 := by kernel_rfl
theorem ta88 : tagg Try.prog 88 = false := by kernel_rfl
theorem tb88 : tbytes? Try.prog 88 = 8 := by kernel_rfl
theorem tz88 : tzero Try.prog 88 = some [.map none] := by kernel_rfl
theorem tm88 : Try.prog.underlying 88 = some (.map 3 99) := by kernel_rfl
theorem tk90 : tknown Try.prog 90 = true := by kernel_rfl
theorem ts90 : tsize Try.prog 90 = 9 := by kernel_rfl
theorem ta90 : tagg Try.prog 90 = true := by kernel_rfl
theorem tb90 : tbytes? Try.prog 90 = 88 := by kernel_rfl
theorem tz90 : tzero Try.prog 90 = some [.int .i64 0, .int .i64 0, .int .i64 0, .int .i64 0, .bool false, .int .i64 0, .int .i64 0, .slice none 0 0, .map none] := by kernel_rfl
theorem tf90_0 : tfield Try.prog 90 0 = some (0, 1, true) := by kernel_rfl
theorem tf90_1 : tfield Try.prog 90 1 = some (1, 3, true) := by kernel_rfl
theorem tf90_2 : tfield Try.prog 90 2 = some (4, 1, false) := by kernel_rfl
theorem tf90_3 : tfield Try.prog 90 3 = some (5, 1, false) := by kernel_rfl
theorem tf90_4 : tfield Try.prog 90 4 = some (6, 1, false) := by kernel_rfl
theorem tf90_5 : tfield Try.prog 90 5 = some (7, 1, false) := by kernel_rfl
theorem tf90_6 : tfield Try.prog 90 6 = some (8, 1, false) := by kernel_rfl
theorem tpl90 : tplaces Try.prog 90 = some [(0, 1), (1, 3), (4, 1), (5, 1), (6, 1), (7, 1), (8, 1)] := by kernel_rfl
theorem tk91 : tknown Try.prog 91 = true := by kernel_rfl
theorem ts91 : tsize Try.prog 91 = 1 := by kernel_rfl
theorem ta91 : tagg Try.prog 91 = false := by kernel_rfl
theorem tb91 : tbytes? Try.prog 91 = 24 := by kernel_rfl
theorem tz91 : tzero Try.prog 91 = some [.slice none 0 0] := by kernel_rfl
theorem te91 : telem Try.prog 91 = some 27 := by kernel_rfl
theorem tk92 : tknown Try.prog 92 = true := by kernel_rfl
theorem ts92 : tsize Try.prog 92 = 1 := by kernel_rfl
theorem ta92 : tagg Try.prog 92 = false := by kernel_rfl
theorem tb92 : tbytes? Try.prog 92 = 24 := by kernel_rfl
theorem tz92 : tzero Try.prog 92 = some [.slice none 0 0] := by kernel_rfl
theorem te92 : telem Try.prog 92 = some 110 := by kernel_rfl
theorem tk94 : tknown Try.prog 94 = true := by kernel_rfl
theorem ts94 : tsize Try.prog 94 = 1 := by kernel_rfl
theorem ta94 : tagg Try.prog 94 = true := by kernel_rfl
theorem tb94 : tbytes? Try.prog 94 = 24 := by kernel_rfl
theorem tz94 : tzero Try.prog 94 = some [.slice none 0 0] := by kernel_rfl
theorem tf94_0 : tfield Try.prog 94 0 = some (0, 1, false) := by kernel_rfl
theorem tpl94 : tplaces Try.prog 94 = some [(0, 1)] := by kernel_rfl
theorem tk96 : tknown Try.prog 96 = true := by kernel_rfl
theorem ts96 : tsize Try.prog 96 = 7 := by kernel_rfl
theorem ta96 : tagg Try.prog 96 = true := by kernel_rfl
theorem tb96 : tbytes? Try.prog 96 = 72 := by kernel_rfl
theorem tz96 : tzero Try.prog 96 = some [.int .i64 0, .bool false, .int .i64 0, .int .i64 0, .int .i64 0, .int .i64 0, .slice none 0 0] := by kernel_rfl
theorem tf96_0 : tfield Try.prog 96 0 = some (0, 1, true) := by kernel_rfl
theorem tf96_1 : tfield Try.prog 96 1 = some (1, 1, false) := by kernel_rfl
theorem tf96_2 : tfield Try.prog 96 2 = some (2, 1, false) := by kernel_rfl
theorem tf96_3 : tfield Try.prog 96 3 = some (3, 1, false) := by kernel_rfl
theorem tf96_4 : tfield Try.prog 96 4 = some (4, 1, false) := by kernel_rfl
theorem tf96_5 : tfield Try.prog 96 5 = some (5, 1, false) := by kernel_rfl
theorem tf96_6 : tfield Try.prog 96 6 = some (6, 1, true) := by kernel_rfl
theorem tpl96 : tplaces Try.prog 96 = some [(0, 1), (1, 1), (2, 1), (3, 1), (4, 1), (5, 1), (6, 1)] := by kernel_rfl
theorem tk99 : tknown Try.prog 99 = true := by kernel_rfl
theorem ts99 : tsize Try.prog 99 = 1 := by kernel_rfl
theorem ta99 : tagg Try.prog 99 = false := by kernel_rfl
theorem tb99 : tbytes? Try.prog 99 = 8 := by kernel_rfl
theorem tz99 : tzero Try.prog 99 = some [.nilFunc] := by kernel_rfl
theorem tv99 : tzv Try.prog 99 = some .nilFunc := by kernel_rfl
theorem tk102 : tknown Try.prog 102 = true := by kernel_rfl
theorem ts102 : tsize Try.prog 102 = 2 := by kernel_rfl
theorem ta102 : tagg Try.prog 102 = true := by kernel_rfl
theorem tb102 : tbytes? Try.prog 102 = 16 := by kernel_rfl
theorem tz102 : tzero Try.prog 102 = some [.int .i64 0, .int .i64 0] := by kernel_rfl
theorem tf102_0 : tfield Try.prog 102 0 = some (0, 1, false) := by kernel_rfl
theorem tf102_1 : tfield Try.prog 102 1 = some (1, 1, false) := by kernel_rfl
theorem tpl102 : tplaces Try.prog 102 = some [(0, 1), (1, 1)] := by kernel_rfl
theorem tk108 : tknown Try.prog 108 = true := by kernel_rfl
theorem ts108 : tsize Try.prog 108 = 1 := by kernel_rfl
theorem ta108 : tagg Try.prog 108 = false := by kernel_rfl
theorem tb108 : tbytes? Try.prog 108 = 8 := by kernel_rfl
theorem tz108 : tzero Try.prog 108 = some [.pointer none] := by kernel_rfl
theorem tp108 : tptr Try.prog 108 = true := by kernel_rfl
theorem tk110 : tknown Try.prog 110 = true := by kernel_rfl
theorem ts110 : tsize Try.prog 110 = 2 := by kernel_rfl
theorem ta110 : tagg Try.prog 110 = true := by kernel_rfl
theorem tb110 : tbytes? Try.prog 110 = 16 := by kernel_rfl
theorem tz110 : tzero Try.prog 110 = some [.int .i64 0, .int .i64 0] := by kernel_rfl
theorem tf110_0 : tfield Try.prog 110 0 = some (0, 1, false) := by kernel_rfl
theorem tf110_1 : tfield Try.prog 110 1 = some (1, 1, false) := by kernel_rfl
theorem tpl110 : tplaces Try.prog 110 = some [(0, 1), (1, 1)] := by kernel_rfl
end Go.Proofs.Ytmnpnnegnlhemaa.Eng
