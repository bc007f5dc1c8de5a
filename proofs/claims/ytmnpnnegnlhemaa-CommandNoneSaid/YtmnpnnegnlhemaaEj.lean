/- The engine's operations: the model agrees with the function that computes them. Plain lemmas; no statement of the seat. -/
import Derived.Test.YtmnpnnegnlhemaaEi
namespace Go.Proofs.Ytmnpnnegnlhemaa.Eng
open Go

theorem run_max2' {P : Program} (ts : Array TypeId) (t : TypeId) (k k' : IntKind) (x y : Int) (w : World) : (Builtin.max_ ts t #[.int k x, .int k' y]).run P w = .ok (.int k (max x y)) w := by
  have : max x y = if y > x then y else x := by omega
  rw [this]
  simp [Builtin.max_, Builtin.max2]
theorem run_min2' {P : Program} (ts : Array TypeId) (t : TypeId) (k k' : IntKind) (x y : Int) (w : World) : (Builtin.min_ ts t #[.int k x, .int k' y]).run P w = .ok (.int k (min x y)) w := by
  have : min x y = if y < x then y else x := by omega
  rw [this]
  simp [Builtin.min_, Builtin.min2]

theorem sMap_sat {g : G} {ρ : Env} {H : List AB} {w : World} (hs : Sat g ρ H w) {q : Option Nat} (hq : holeAt H q) :
    ∃ ρ', Env.le ρ ρ' ∧ Sat g ρ' (pushAt H (.map []) q) (w.alloc (.map #[] 0)) ∧ R ρ' (.mapv (idxAt H q)) (.map (some w.heap.size)) := by
  have hat : (ρ.ext (idxAt H q) (w.heap.size, (0, 0))) (idxAt H q) = some (w.heap.size, (0, 0)) := by simp [Env.ext]
  obtain ⟨k1, k2⟩ := hs.newAt q hq (0, 0) (.map []) (.map #[] 0) (fun _ => ⟨_, _, #[], hat, heap_new w _, by simp [REnts]⟩)
  exact ⟨_, k1, k2, by simp only [R]; exact ⟨_, _, hat, rfl⟩⟩

section
variable {P : Program} {g : G} {ρ : Env} {H : List AB} {w : World} {Γ : Con} {q : Option Nat} {ev : Operand → SV} {a : Act} {o : Oper}

/-- A call, met by what is known of the function. -/
theorem call_sound (hs : Sat g ρ H w) (hΓ : Con.Sound P g.E Γ) {sf : SV} {vf : Value} {sargs : List SV} {vargs : Array Value} (hf : R ρ sf vf) (ha : RL ρ sargs vargs.toList) (h : (sCall Γ H sf sargs).pre)
    {K : Act → World → Prop} {Q : Exit → Act → World → Prop} (hK : ∀ ρ' x w', Env.le ρ ρ' → Sat g ρ' (sCall Γ H sf sargs).heap w' → R ρ' (sCall Γ H sf sargs).val x → K (a.put o.dst x) w') :
    o.upon P a K Q ((do let d ← Deferred.ofValue vf vargs; invoke d.target d.args : Sem Next).run P w) := by
  have go : ∀ (f : FuncId) (args : List SV) (va : List Value), RL ρ args va → (Γ (.func f) args H).pre →
      (∀ ρ' x w', Env.le ρ ρ' → Sat g ρ' (Γ (.func f) args H).heap w' → R ρ' (Γ (.func f) args H).val x → K (a.put o.dst x) w') → o.upon P a K Q ((callFunc f va.toArray).run P w) := by
    intro f args va hr hp hk
    obtain ⟨⟨fn, b1, b2, b3⟩, _, hc⟩ := hΓ (.func f) args H hp
    have hrun : (callFunc f va.toArray).run P w = .ok (.enter f va.toArray) w := by
      unfold callFunc
      simp only [Sem.run_bind, run_program, Result.andThen_ok, b1, b2, b3, Bool.false_eq_true, if_false, Sem.run_pure]
    rw [hrun]
    show Calls P f va.toArray w _
    refine (hc g ρ w va rfl hs hr).mono fun e w' ⟨ρ', x, he, h1, h2, h3⟩ => ?_
    subst he
    exact hk ρ' x w' h1 h2 h3
  unfold sCall at h hK
  split at h
  · rename_i f u v
    simp only [R] at hf
    subst hf
    obtain ⟨⟨rfl, rfl⟩, h⟩ := h
    have := go f sargs vargs.toList ha h hK
    simpa [Deferred.ofValue, invoke] using this
  · rename_i f first cap
    simp only [R] at hf
    obtain ⟨v1, v2, rfl, r1, r2⟩ := hf
    have := go f (first ++ sargs ++ cap) (v1.toList ++ vargs.toList ++ v2.toList) (RL.append (RL.append r1 ha) r2) h hK
    have e : (v1.toList ++ vargs.toList ++ v2.toList).toArray = v1 ++ vargs ++ v2 := by apply Array.ext'; simp
    rw [e] at this
    simpa [Deferred.ofValue, invoke] using this
  · exact h.elim

set_option maxHeartbeats 1000000 in
theorem sop_sound (hs : Sat g ρ H w) (hΓ : Con.Sound P g.E Γ) (hev : ∀ x ∈ opNeeds o.op, R ρ (unw ev x) (a.eval x)) (hpick : ∀ x, R ρ (ev x) (a.eval x)) (h : (sop P g.E Γ q H ev o.op).pre)
    {K : Act → World → Prop} {Q : Exit → Act → World → Prop} (hK : ∀ ρ' x w', Env.le ρ ρ' → Sat g ρ' (sop P g.E Γ q H ev o.op).heap w' → R ρ' (sop P g.E Γ q H ev o.op).val x → K (a.put o.dst x) w') :
    o.wp P a w K Q := by
  obtain ⟨dst, op, ty, pos, after, guard⟩ := o
  have quiet : ∀ (r : Res), r.heap = H → (∀ ρ' x w', Env.le ρ ρ' → Sat g ρ' r.heap w' → R ρ' r.val x → K (a.put dst x) w') → ∀ x, R ρ r.val x → K (a.put dst x) w := by
    intro r hr hk x hx
    exact hk ρ x w (Env.le_refl _) (hr ▸ hs) hx
  cases op <;> simp only [sop] at h hK <;> first | exact h.elim | skip
  case move x => exact wp_pure (x := a.eval x) rfl (quiet ⟨True, unw ev x, H⟩ rfl hK _ (hev x (by simp [opNeeds])))
  case assign x => exact wp_pure (x := a.eval x) rfl (quiet ⟨True, unw ev x, H⟩ rfl hK _ (hev x (by simp [opNeeds])))
  case pick c x y =>
    obtain ⟨h1, b, h2, h3⟩ := sPick_sound (hev c (by simp [opNeeds])) (hpick x) (hpick y) h
    have e : (execOp a.eval { dst, op := .pick c x y, type := ty, pos, after, guard }).run P w = .ok (.value (if b then a.eval x else a.eval y)) w := by
      simp [execOp, h2, asBool]
    unfold Oper.wp
    rw [e]
    exact quiet _ h1 hK _ h3
  case alloc t =>
    obtain ⟨ρ', x, w', h1, h2, h3, h4⟩ := sAlloc_sound hs h
    exact wp_value rfl h1 (hK ρ' x w' h2 h3 h4)
  case box t x =>
    obtain ⟨ρ', v, w', h1, h2, h3, h4⟩ := sBox_sound hs (hev x (by simp [opNeeds])) h
    exact wp_value rfl h1 (hK ρ' v w' h2 h3 h4)
  case build t ps =>
    obtain ⟨h1, v, h2, h3⟩ := sBuild_sound (qs := ps.map fun x => (x.1, a.eval x.2)) (by simp [Function.comp_def]) (by
      simp only [List.map_map, Array.toList_map]
      exact RL.mapR _ _ _ (fun x hx => hev x.2 (by simp [opNeeds]; exact ⟨_, by simpa using hx⟩))) h
    exact wp_value rfl (h2 w) (quiet _ h1 hK _ h3)
  case buildSlice t len ps =>
    obtain ⟨ρ', v, w', h1, h2, h3, h4⟩ := sLit_sound hs (qs := ps.map fun x => (x.1, a.eval x.2)) (by simp [Function.comp_def]) (by
      simp only [List.map_map, Array.toList_map]
      exact RL.mapR _ _ _ (fun x hx => hev x.2 (by simp [opNeeds]; exact ⟨_, by simpa using hx⟩))) h
    exact wp_value rfl h1 (hK ρ' v w' h2 h3 h4)
  case load t x =>
    obtain ⟨h1, v, h2, h3⟩ := sLoad_sound hs (hev x (by simp [opNeeds])) h
    exact wp_value rfl (h2 w rfl) (quiet _ h1 hK _ h3)
  case store t x y =>
    obtain ⟨w', h1, h2⟩ := sStore_sound hs (hev x (by simp [opNeeds])) (hev y (by simp [opNeeds])) h
    refine wp_unit rfl h1 (hK ρ undef w' (Env.le_refl _) h2 ?_)
    unfold sStore at h ⊢
    repeat' split
    all_goals simp_all [no, R]
  case nilCheck x =>
    have hx := hev x (by simp [opNeeds])
    unfold sNil at h hK
    split at h
    · rename_i i q e
      rw [e] at hx hK
      have hx' := hx
      simp only [R] at hx'
      obtain ⟨b, c, _, hv⟩ := hx'
      refine wp_pure (x := a.eval x) ?_ (quiet _ rfl hK _ hx)
      simp [execOp, hv]
    · rename_i i sz k j e
      rw [e] at hx hK
      have hx' := hx
      simp only [R] at hx'
      obtain ⟨b, c, _, hv⟩ := hx'
      refine wp_pure (x := a.eval x) ?_ (quiet _ rfl hK _ hx)
      simp [execOp, hv]
    · rename_i f u v e
      rw [e] at hx hK
      have hx' := hx
      simp only [R] at hx'
      obtain ⟨b, c, hv, _, _⟩ := hx'
      split at h <;> first | exact h.elim | skip
      all_goals
        refine wp_pure (x := a.eval x) ?_ (quiet _ rfl hK _ hx)
        simp [execOp, hv]
    · rename_i ad e
      rw [e] at hx hK
      have hx' := hx
      simp only [R] at hx'
      refine wp_pure (x := a.eval x) ?_ (quiet _ rfl hK _ hx)
      simp [execOp, hx']
    · exact h.elim
  case binOp op t x y ty' =>
    obtain ⟨h1, v, h2, h3, h4⟩ := sBin_sound x y (hev x (by simp [opNeeds])) (hev y (by simp [opNeeds])) h w
    refine wp_value (s := do eqGuard op t x y (a.eval x) (a.eval y); binOp op t (a.eval x) (a.eval y)) rfl ?_ (quiet _ h1 hK _ h4)
    simp [h2, h3]
  case unOp op t x =>
    obtain ⟨h1, v, h2, h3⟩ := sUn_sound (P := P) (hev x (by simp [opNeeds])) h w
    exact wp_value rfl h2 (quiet _ h1 hK _ h3)
  case convert s d x =>
    obtain ⟨h1, v, h2, h3⟩ := sConv_sound (hev x (by simp [opNeeds])) h w
    exact wp_value rfl h2 (quiet _ h1 hK _ h3)
  case makeFunc f first cap =>
    refine wp_value (x := .func f (first.map a.eval) (cap.map a.eval)) (s := Instr.makeFunc f (first.map a.eval) (cap.map a.eval)) rfl rfl (quiet ⟨True, .fn f (first.toList.map (unw ev)) (cap.toList.map (unw ev)), H⟩ rfl hK _ ?_)
    simp only [R]
    refine ⟨_, _, rfl, ?_, ?_⟩
    · rw [Array.toList_map]; exact RL.mapR _ _ _ (fun x hx => hev x (by simp [opNeeds]; left; simpa using hx))
    · rw [Array.toList_map]; exact RL.mapR _ _ _ (fun x hx => hev x (by simp [opNeeds]; right; simpa using hx))
  case makeMap t r =>
    cases r with
    | some _ => exact h.elim
    | none =>
      obtain ⟨ρ', h2, h3, h4⟩ := sMap_sat hs h
      exact wp_value (s := Instr.makeMap t none) rfl (by simp [Instr.makeMap]) (hK ρ' _ _ h2 h3 h4)
  case makeSlice t l c =>
    obtain ⟨ρ', v, w', h1, h2, h3, h4⟩ := sMake_sound hs (hev l (by simp [opNeeds])) (hev c (by simp [opNeeds])) h
    exact wp_value rfl h1 (hK ρ' v w' h2 h3 h4)
  case slice t x lo hi mx =>
    cases lo <;> cases hi <;> cases mx <;> simp only at h hK <;> first | exact h.elim | skip
    rename_i lo
    obtain ⟨h1, v, h2, h3⟩ := sSlice_sound (P := P) (hev x (by simp [opNeeds])) (hev lo (by simp [opNeeds])) h
    exact wp_value rfl (h2 w) (quiet _ h1 hK _ h3)
  case fieldAddr t x f =>
    obtain ⟨h1, v, h2, h3⟩ := sField_sound (hev x (by simp [opNeeds])) h
    exact wp_value rfl (h2 w) (quiet _ h1 hK _ h3)
  case field t x f =>
    obtain ⟨h1, v, h2, h3⟩ := sPart_sound (hev x (by simp [opNeeds])) h
    exact wp_value rfl (h2 w) (quiet _ h1 hK _ h3)
  case indexAddr t x i =>
    obtain ⟨h1, v, h2, h3⟩ := sIndex_sound (hev x (by simp [opNeeds])) (hev i (by simp [opNeeds])) h
    exact wp_value rfl (h2 w) (quiet _ h1 hK _ h3)
  case index t x i =>
    have hx := hev x (by simp [opNeeds])
    have hi := hev i (by simp [opNeeds])
    unfold sAt at h hK
    split at h
    · rename_i len e cs k n he e1 e2
      obtain ⟨h1, h2, h3, h4, h5, h6⟩ := h
      rw [e1] at hx
      rw [e2] at hi
      simp only [R] at hx hi
      obtain ⟨ar, hv, hx⟩ := hx
      have hl := hx.length
      have hlt : n.toNat < ar.size := by simp at hl; omega
      refine wp_value (s := Instr.index t (a.eval x) (a.eval i)) (x := ar[n.toNat]) rfl ?_ (quiet _ ?_ hK _ ?_)
      · simp [Instr.index, hv, hi, asIntOf, run_underlying (tarr_some he), h4, h5, part, run_isAgg' h1, h2, run_sizeOf' h1, h3, hlt]
      · simp only [he, e1, e2]
      · simp only [he, e1, e2]
        have hd := RL.take 1 (RL.drop n.toNat hx)
        have e : (ar.toList.drop n.toNat).take 1 = [ar[n.toNat]] := by
          rw [List.drop_eq_getElem_cons (by simpa using hlt)]
          simp
        rw [e] at hd
        generalize (cs.drop n.toNat).take 1 = l at hd ⊢
        match l, hd with
        | [y], hd => simp only [RL] at hd; exact hd.1
        | [], hd => simp only [RL] at hd
        | _ :: _ :: _, hd => simp only [RL] at hd; exact hd.2.elim
    · exact h.elim
  case lookup t m k ok =>
    cases ok with
    | false => exact h.elim
    | true =>
      obtain ⟨h1, v, h2, h3⟩ := sLookup_sound hs (hev m (by simp [opNeeds])) (hev k (by simp [opNeeds])) h
      exact wp_value rfl (h2 w rfl) (quiet _ h1 hK _ h3)
  case insert t m k x =>
    obtain ⟨w', h1, h2⟩ := sInsert_sound hs (hev m (by simp [opNeeds])) (hev k (by simp [opNeeds])) (hev x (by simp [opNeeds])) h
    refine wp_unit rfl h1 (hK ρ undef w' (Env.le_refl _) h2 ?_)
    unfold sInsert at h ⊢
    repeat' split
    all_goals simp_all [no, R]
  case extract t i =>
    have ht := hev t (by simp [opNeeds])
    unfold sExtract at h hK
    split at h
    · rename_i vs e
      rw [e] at ht hK
      simp only [R] at ht
      obtain ⟨ar, hv, ht⟩ := ht
      split at h
      · rename_i s hs'
        simp only [hs'] at hK
        obtain ⟨x, hx, hr⟩ := ht.get _ _ hs'
        refine wp_value (s := Instr.extract (a.eval t) i) (x := x) rfl ?_ (quiet ⟨True, s, H⟩ rfl hK _ hr)
        simp only [Instr.extract, hv]
        have : ar[i]? = some x := by simpa using hx
        simp [this]
      · exact h.elim
    · exact h.elim
  case call c =>
    obtain ⟨callee, args, argTypes⟩ := c
    cases callee with
    | value f =>
      have hargs : RL ρ (args.toList.map (unw ev)) (args.map a.eval).toList := by
        rw [Array.toList_map]
        exact RL.mapR _ _ _ (fun x hx => hev x (by simp [opNeeds]; right; simpa using hx))
      have := call_sound (a := a) (o := { dst, op := .call { callee := .value f, args, argTypes }, type := ty, pos, after, guard }) (K := K) (Q := Q) hs hΓ (hev f (by simp [opNeeds])) hargs h hK
      unfold Oper.wp
      have e : execOp a.eval { dst, op := .call { callee := .value f, args, argTypes }, type := ty, pos, after, guard } = (do let d ← Deferred.ofValue (a.eval f) (args.map a.eval); invoke d.target d.args : Sem Next) := rfl
      rw [e]
      exact this
    | invoke r m => exact h.elim
    | builtin b =>
      simp only at h hK
      have hargs : RL ρ (args.toList.map (unw ev)) (args.map a.eval).toList := by
        rw [Array.toList_map]
        exact RL.mapR _ _ _ (fun x hx => hev x (by simp [opNeeds]; simpa using hx))
      have run : ∀ {s : Sem Value} {x : Value} {w' : World}, builtin b argTypes ty (args.map fun | .const _ => true | _ => false) (args.map a.eval) = (do pure (.value (← s)) : Sem Next) → s.run P w = .ok x w' → K (a.put dst x) w' →
          Oper.wp P { dst, op := .call { callee := .builtin b, args, argTypes }, type := ty, pos, after, guard } a w K Q := by
        intro s x w' h1 h2 h3
        refine wp_value (s := s) ?_ h2 h3
        rw [← h1]
        rfl
      unfold sBuiltin at h hK
      split at h
      · rename_i t x e1 e2
        rw [e1, e2] at hK
        rw [e2] at hargs
        have et : argTypes = #[t] := by apply Array.ext'; simpa using e1
        match hva : (args.map a.eval).toList, hargs with
        | [v], hargs =>
          simp only [RL] at hargs
          have ev : args.map a.eval = #[v] := by apply Array.ext'; simpa using hva
          obtain ⟨h1, y, h2, h3⟩ := sLen_sound (P := P) (ty := ty) hargs.1 h
          refine run rfl ?_ (quiet _ h1 hK _ h3)
          rw [et, ev]
          exact h2 w
        | [], hargs => simp only [RL] at hargs
        | _ :: _ :: _, hargs => simp only [RL] at hargs; exact hargs.2.elim
      · rename_i t t' x y e1 e2
        rw [e1, e2] at hK
        rw [e2] at hargs
        split at h
        · rename_i htt
          have htt' : t = t' := by simpa using htt
          subst htt'
          simp only [decide_true] at hK
          have et : argTypes = #[t, t] := by apply Array.ext'; simpa using e1
          match hva : (args.map a.eval).toList, hargs with
          | [v, u], hargs =>
            simp only [RL] at hargs
            have ev : args.map a.eval = #[v, u] := by apply Array.ext'; simpa using hva
            obtain ⟨ρ', z, w', h1, h2, h3, h4⟩ := sApp_sound (ty := ty) hs hargs.1 hargs.2.1 h
            refine run rfl ?_ (hK ρ' z w' h2 h3 h4)
            rw [et, ev]
            exact h1
          | [], hargs => simp only [RL] at hargs
          | [_], hargs => simp only [RL] at hargs; exact hargs.2.elim
          | _ :: _ :: _ :: _, hargs => simp only [RL] at hargs; exact hargs.2.2.elim
        · exact h.elim
      · rename_i xs _ _
        unfold sMax at h hK
        split at h
        · rename_i k x k' y e2
          rw [e2] at hK hargs
          match hva : (args.map a.eval).toList, hargs with
          | [v, u], hargs =>
            simp only [RL, R] at hargs
            obtain ⟨rfl, rfl, _⟩ := hargs
            have ev : args.map a.eval = #[.int k x, .int k' y] := by apply Array.ext'; simpa using hva
            refine run rfl ?_ (quiet _ rfl hK (.int k (max x y)) (by simp only [R]))
            rw [ev]
            exact run_max2' _ _ k k' x y w
          | [], hargs => simp only [RL] at hargs
          | [_], hargs => simp only [RL] at hargs; exact hargs.2.elim
          | _ :: _ :: _ :: _, hargs => simp only [RL] at hargs; exact hargs.2.2.elim
        · exact h.elim
      · rename_i xs _ _
        unfold sMin at h hK
        split at h
        · rename_i k x k' y e2
          rw [e2] at hK hargs
          match hva : (args.map a.eval).toList, hargs with
          | [v, u], hargs =>
            simp only [RL, R] at hargs
            obtain ⟨rfl, rfl, _⟩ := hargs
            have ev : args.map a.eval = #[.int k x, .int k' y] := by apply Array.ext'; simpa using hva
            refine run rfl ?_ (quiet _ rfl hK (.int k (min x y)) (by simp only [R]))
            rw [ev]
            exact run_min2' _ _ k k' x y w
          | [], hargs => simp only [RL] at hargs
          | [_], hargs => simp only [RL] at hargs; exact hargs.2.elim
          | _ :: _ :: _ :: _, hargs => simp only [RL] at hargs; exact hargs.2.2.elim
        · exact h.elim
      · exact h.elim
end

end Go.Proofs.Ytmnpnnegnlhemaa.Eng
