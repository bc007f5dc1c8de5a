/- The engine's operations: the model agrees with them. Plain lemmas; no statement of the seat. -/
import Derived.Test.YtmnpnnegnlhemaaEh
namespace Go.Proofs.Ytmnpnnegnlhemaa.Eng
open Go

section
variable {P : Program} {a : Act} {w w' : World} {K : Act → World → Prop} {Q : Exit → Act → World → Prop} {o : Oper}

theorem wp_value {s : Sem Value} {x : Value} (h : execOp a.eval o = (do pure (.value (← s)) : Sem Next)) (hr : s.run P w = .ok x w') (hk : K (a.put o.dst x) w') : o.wp P a w K Q := by
  unfold Oper.wp
  rw [h, Sem.run_bind, hr]
  exact hk

theorem wp_unit {s : Sem Unit} (h : execOp a.eval o = (do s; pure .skip : Sem Next)) (hr : s.run P w = .ok () w') (hk : K (a.put o.dst undef) w') : o.wp P a w K Q := by
  unfold Oper.wp
  rw [h, Sem.run_bind, hr]
  exact hk

theorem wp_pure {x : Value} (h : execOp a.eval o = (pure (.value x) : Sem Next)) (hk : K (a.put o.dst x) w) : o.wp P a w K Q := by
  unfold Oper.wp
  rw [h]
  exact hk
end

theorem RL.mapR {ρ : Env} {α : Type} (f : α → SV) (h : α → Value) : ∀ (l : List α), (∀ x ∈ l, R ρ (f x) (h x)) → RL ρ (l.map f) (l.map h)
  | [], _ => by simp [RL]
  | x :: l, hh => by
    simp only [List.map_cons, RL]
    exact ⟨hh x (by simp), RL.mapR f h l (fun y hy => hh y (by simp [hy]))⟩

theorem hasKey_spec {ρ : Env} {k : IntKind} {n : Int} : ∀ (es : List (Value × SV)) (q : Nat) (l : List MapEntry), (hasKey k n es).1 → REnts ρ q es l →
    ((hasKey k n es).2 = false → ∀ i, Instr.findNow (.int k) (.int k n) l i = some none) ∧
    (∀ s, findK n es = some s → ∀ i, ∃ j v, Instr.findNow (.int k) (.int k n) l i = some (some (j, v)) ∧ R ρ s v) ∧
    (findK n es = none → ∀ i, Instr.findNow (.int k) (.int k n) l i = some none)
  | [], q, [], _, _ => ⟨fun _ i => rfl, fun s h => by simp [findK] at h, fun _ i => rfl⟩
  | [], q, _ :: _, _, h => by simp only [REnts] at h
  | e0 :: _, q, [], _, h => by obtain ⟨a, b⟩ := e0; simp only [REnts] at h
  | (kv, s) :: es, q, e :: l, hp, h => by
    simp only [REnts] at h
    obtain ⟨h1, h2, h3, h4⟩ := h
    unfold hasKey at hp
    split at hp
    · rename_i heq; cases heq
    · rename_i k' m s' l' heq
      cases heq
      obtain ⟨rfl, hp⟩ := hp
      obtain ⟨i1, i2, i3⟩ := hasKey_spec es (q + 1) l hp h4
      by_cases hnm : n = m
      · subst hnm
        have hf : ∀ i, Instr.findNow (.int k') (.int k' n) (e :: l) i = some (some (i, e.val)) := fun i => by
          simp [Instr.findNow, h1, Instr.sameNow]
        refine ⟨fun hh => by simp [hasKey] at hh, fun s2 hs2 i => ?_, fun hh => by simp [findK] at hh⟩
        simp [findK] at hs2
        subst hs2
        exact ⟨i, e.val, hf i, h2⟩
      · have hf : ∀ i, Instr.findNow (.int k') (.int k' n) (e :: l) i = Instr.findNow (.int k') (.int k' n) l (i + 1) := fun i => by
          have hb : (n == m) = false := by simpa using hnm
          simp only [Instr.findNow, h1, Instr.sameNow, if_true, hb]
        refine ⟨fun hh i => ?_, fun s2 hs2 i => ?_, fun hh i => ?_⟩
        · rw [hf]; exact i1 (by simpa [hasKey, hnm] using hh) _
        · rw [hf]; exact i2 s2 (by simpa [findK, hnm] using hs2) _
        · rw [hf]; exact i3 (by simpa [findK, hnm] using hh) _
    · exact hp.elim

theorem REnts_push {ρ : Env} {k : Value} {s : SV} {v : Value} (hr : R ρ s v) : ∀ (es : List (Value × SV)) (q : Nat) (l : List MapEntry), REnts ρ q es l → REnts ρ q (es ++ [(k, s)]) (l ++ [{ key := k, val := v, born := q + es.length }])
  | [], q, [], _ => by simp only [List.nil_append, REnts, List.length_nil, Nat.add_zero, and_true, true_and]; exact hr
  | [], q, _ :: _, h => by simp only [REnts] at h
  | e0 :: _, q, [], h => by obtain ⟨a, b⟩ := e0; simp only [REnts] at h
  | (kv, s0) :: es, q, e :: l, h => by
    simp only [REnts] at h
    obtain ⟨h1, h2, h3, h4⟩ := h
    have ih := REnts_push (k := k) hr es (q + 1) l h4
    simp only [List.cons_append, REnts, List.length_cons]
    refine ⟨h1, h2, h3, ?_⟩
    rw [show q + (es.length + 1) = q + 1 + es.length by omega]
    exact ih

theorem run_checkKey_int {P : Program} {kt : TypeId} {kd : IntKind} (h : tint P kt = some kd) (em : Bool) (v : Value) (w : World) : (Instr.checkKey em 10000 kt v).run P w = .ok () w := by
  have k : ∀ d : Nat, (Instr.checkKey em (d + 1) kt v).run P w = .ok () w := fun d => by
    simp [Instr.checkKey, run_underlying (tint_some h)]
  exact k 9999

theorem run_findKey {P : Program} {kt : TypeId} {kd : IntKind} (h : tint P kt = some kd) (v : Value) (l : List MapEntry) (r : Option (Nat × Value)) (hf : Instr.findNow (.int kd) v l 0 = some r) (w : World) : (Instr.findKey kt v l).run P w = .ok r w := by
  simp [Instr.findKey, run_underlying (tint_some h), hf]

theorem sLookup_sound {P : Program} {g : G} {ρ : Env} {H : List AB} {w : World} (hs : Sat g ρ H w) {t : TypeId} {m k : SV} {vm vk : Value} (hm : R ρ m vm) (hk : R ρ k vk) (h : (sLookup P H t m k).pre) :
    (sLookup P H t m k).heap = H ∧ ∃ x, (∀ w', w'.heap = w.heap → (Instr.lookup t vm vk true).run P w' = .ok x w') ∧ R ρ (sLookup P H t m k).val x := by
  unfold sLookup at h ⊢
  split at h
  · rename_i i kd n
    simp only [R] at hm hk
    obtain ⟨b, c, e1, rfl⟩ := hm
    subst hk
    split at h
    · rename_i es hg
      have hb := hs.blk i _ (hget_some (H := H) (i := i) (by rw [hg]; rfl))
      rw [hg] at hb
      obtain ⟨b', c', l, x1, x2, x3⟩ := hb
      rw [e1] at x1; cases x1
      split at h
      · rename_i kt et hu
        split at h
        · rename_i z hz
          split at h
          · rename_i s hf
            obtain ⟨h1, h2⟩ := h
            obtain ⟨j, v, f1, f2⟩ := (hasKey_spec es 0 l.toList h2 x3).2.1 s hf 0
            refine ⟨rfl, .tuple #[v, .bool true], fun w' e => ?_, ?_⟩
            · have hh : w'.heap[b]? = some (.map l es.length) := by rw [e]; exact x2
              simp [Instr.lookup, run_underlying hu, getObj, Sem.run, hh, run_checkKey_int h1, run_findKey h1 _ _ _ f1]
            · simp only [R]
              exact ⟨_, rfl, by simp only [RL, R]; exact ⟨f2, trivial, trivial⟩⟩
          · rename_i hf
            obtain ⟨h1, h2⟩ := h
            have f1 := (hasKey_spec es 0 l.toList h2 x3).2.2 hf 0
            refine ⟨rfl, .tuple #[z, .bool false], fun w' e => ?_, ?_⟩
            · have hh : w'.heap[b]? = some (.map l es.length) := by rw [e]; exact x2
              unfold tzv at hz
              cases hi : P.info? et with
              | none => simp [hi] at hz
              | some ti =>
                simp only [hi, Option.bind_some] at hz
                simp [Instr.lookup, run_underlying hu, getObj, Sem.run, hh, run_checkKey_int h1, run_findKey h1 _ _ _ f1, zeroValue, typeInfo, hi, hz]
            · simp only [R]
              exact ⟨_, rfl, by simp only [RL, R]; exact ⟨trivial, trivial, trivial⟩⟩
        · exact h.elim
      · exact h.elim
    · exact h.elim
  · exact h.elim

theorem sInsert_sound {P : Program} {g : G} {ρ : Env} {H : List AB} {w : World} (hs : Sat g ρ H w) {t : TypeId} {m k x : SV} {vm vk vx : Value} (hm : R ρ m vm) (hk : R ρ k vk) (hx : R ρ x vx) (h : (sInsert P H t m k x).pre) :
    ∃ w', (Instr.mapUpdate t vm vk vx).run P w = .ok () w' ∧ Sat g ρ (sInsert P H t m k x).heap w' := by
  unfold sInsert at h ⊢
  split at h
  · rename_i i kd n
    simp only [R] at hm hk
    obtain ⟨b, c, e1, rfl⟩ := hm
    subst hk
    split at h
    · rename_i es hg
      have hi := hget_some (H := H) (i := i) (by rw [hg]; rfl)
      have hb := hs.blk i _ hi
      rw [hg] at hb hi
      obtain ⟨b', c', l, x1, x2, x3⟩ := hb
      rw [e1] at x1; cases x1
      split at h
      · rename_i kt et hu
        obtain ⟨h1, h2, h3⟩ := h
        have f1 := (hasKey_spec es 0 l.toList h2 x3).1 h3 0
        have hrun : (Instr.mapUpdate t (.map (some b)) (.int kd n) vx).run P w = .ok () { w with heap := w.heap.setIfInBounds b (.map (l.push { key := .int kd n, val := vx, born := es.length }) (es.length + 1)) } := by
          simp [Instr.mapUpdate, run_underlying hu, getObj, setObj, Sem.run, x2, run_checkKey_int h1, run_findKey h1 _ _ _ f1]
        have hlt : b < w.heap.size := (Array.getElem?_eq_some_iff.1 x2).1
        refine ⟨_, hrun, ?_⟩
        simp only [hset_eq]
        refine hs.upd hi rfl e1 rfl rfl rfl rfl (by simp) (fun j hne => ?_) ?_
        · simp [Ne.symm hne]
        · refine ⟨b, c, l.push { key := .int kd n, val := vx, born := es.length }, e1, by simp [hlt], ?_⟩
          have := REnts_push (k := .int kd n) hx es 0 l.toList x3
          simpa using this
      · exact h.elim
    · exact h.elim
  · exact h.elim

theorem RL.raw_nil {ρ : Env} {l : List Value} (h : RL ρ [] l) : l = [] := by
  cases l with
  | nil => rfl
  | cons _ _ => simp only [RL] at h

theorem sPick_sound {ρ : Env} {H : List AB} {c x y : SV} {vc vx vy : Value} (hc : R ρ c vc) (hx : R ρ x vx) (hy : R ρ y vy) (h : (sPick H c x y).pre) :
    (sPick H c x y).heap = H ∧ ∃ b : Bool, vc = .bool b ∧ R ρ (sPick H c x y).val (if b then vx else vy) := by
  have str : ∀ {s : SV} {g : Bool} {v : Value} {r : Bool}, strip s = (g, .raw (.bool r)) → R ρ s v → g = true → v = .bool r := by
    intro s g v r he hr hg
    cases s with
    | opt g' s' =>
      simp only [strip, Prod.mk.injEq] at he
      obtain ⟨rfl, rfl⟩ := he
      simp only [R] at hr
      exact hr.1 hg
    | _ =>
      simp only [strip, Prod.mk.injEq] at he
      obtain ⟨rfl, he⟩ := he
      rw [he] at hr
      simpa only [R] using hr
  unfold sPick at h ⊢
  split at h
  · rename_i b ga p gb q e1 e2
    simp only [R] at hc
    refine ⟨rfl, b, hc, ?_⟩
    cases b with
    | true => have := str e1 hx (h.1 rfl); simp [R, this]
    | false => have := str e2 hy (h.2 rfl); simp [R, this]
  · rename_i b ga gb q e1 e2
    simp only [R] at hc
    obtain ⟨rfl, h2⟩ := h
    have := str e2 hy h2
    exact ⟨rfl, false, hc, by simp [R, this]⟩
  · rename_i b ga p gb e1 e2
    simp only [R] at hc
    obtain ⟨rfl, h2⟩ := h
    have := str e1 hx h2
    exact ⟨rfl, true, hc, by simp [R, this]⟩
  · exact h.elim

theorem run_max2 {P : Program} (k k' : IntKind) (x y : Int) (w : World) : (Builtin.max_ #[] 0 #[.int k x, .int k' y]).run P w = .ok (.int k (max x y)) w := by
  have : max x y = if y > x then y else x := by omega
  rw [this]
  simp [Builtin.max_, Builtin.max2]

end Go.Proofs.Ytmnpnnegnlhemaa.Eng
