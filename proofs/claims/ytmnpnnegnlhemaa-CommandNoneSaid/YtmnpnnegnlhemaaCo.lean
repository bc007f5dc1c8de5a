/- Words are held against each other by their numbers: a fact of the loaded table. -/
import Derived.Test.YtmnpnnegnlhemaaFt
import Derived.Laws.StructEq
import Derived.ChangeKeysEq
namespace Go.Proofs.Ytmnpnnegnlhemaa.Eng
open Go

theorem eqf_one {P : Program} {w : World} {d : Nat} {xs ys : Array Value} {f : Field} {fs : List Field} {a b : Int} {s : Bool} (hn : f.name ≠ "_") (hp : P.plainKey f.type = true) (hu : P.underlying f.type = some (.int .i64))
    (ha : xs[f.offset]? = some (.int .i64 a)) (hb : ys[f.offset]? = some (.int .i64 b)) (hr : (Op.eqFields (d + 1) xs ys fs).run P w = .ok s w) : (Op.eqFields (d + 1) xs ys (f :: fs)).run P w = .ok (a == b && s) w := by
  have he : (Op.equalIn (d + 1) f.type (.int .i64 a) (.int .i64 b)).run P w = .ok (a == b) w := by
    simp [Op.equalIn, run_underlying hu]
  rw [Op.eqFields]
  simp only [if_pos hn, Sem.run_bind, run_part_plain w hp ha, run_part_plain w hp hb, he, Result.andThen_ok]
  cases h : (a == b)
  · simp
  · simpa using hr

theorem structEq3 {P : Program} {t : TypeId} {f0 f1 f2 : Field} (hu : P.underlying t = some (.struct #[f0, f1, f2])) (hs : P.stoodInHeld t = false) (hg : P.eqGuardType P.depth t = false)
    (n0 : f0.name ≠ "_") (n1 : f1.name ≠ "_") (n2 : f2.name ≠ "_") (p0 : P.plainKey f0.type = true) (p1 : P.plainKey f1.type = true) (p2 : P.plainKey f2.type = true)
    (u0 : P.underlying f0.type = some (.int .i64)) (u1 : P.underlying f1.type = some (.int .i64)) (u2 : P.underlying f2.type = some (.int .i64)) (o0 : f0.offset = 0) (o1 : f1.offset = 1) (o2 : f2.offset = 2) : StructEq P t 3 := by
  intro x y xs ys w hx hy ix iy
  refine ⟨fun op => ?_, ?_⟩
  · cases op <;> simp [eqGuard, hg]
  · match xs, hx with
    | [a, b, c], _ =>
      match ys, hy with
      | [a', b', c'], _ =>
        obtain ⟨a, rfl⟩ := ix a (by simp)
        obtain ⟨b, rfl⟩ := ix b (by simp)
        obtain ⟨c, rfl⟩ := ix c (by simp)
        obtain ⟨a', rfl⟩ := iy a' (by simp)
        obtain ⟨b', rfl⟩ := iy b' (by simp)
        obtain ⟨c', rfl⟩ := iy c' (by simp)
        have hf : P.fieldsOf t = #[f0, f1, f2] := by simp [Program.fieldsOf, hu]
        refine ⟨(a == a' && (b == b' && (c == c' && true))), by simp, ?_⟩
        show (Op.equalIn (9998 + 1 + 1) t _ _).run P w = _
        rw [run_equalIn_struct (P := P) w (9998 + 1) t _ _ (by rw [hf]; exact hu) hs, hf]
        refine eqf_one n0 p0 u0 (by simp [o0]) (by simp [o0]) (eqf_one n1 p1 u1 (by simp [o1]) (by simp [o1]) (eqf_one n2 p2 u2 (by simp [o2]) (by simp [o2]) ?_))
        simp [Op.eqFields]

theorem seq41 : StructEq Try.prog 41 3 := by
  have hu := Try.underlying41
  exact structEq3 hu (by kernel_rfl) (by kernel_rfl) (by decide) (by decide) (by decide) (by kernel_rfl) (by kernel_rfl) (by kernel_rfl) (by kernel_rfl) (by kernel_rfl) (by kernel_rfl) rfl rfl rfl
end Go.Proofs.Ytmnpnnegnlhemaa.Eng
