/- The engine's regions whose order is drawn: the theorem. Plain lemmas; no statement of the seat. -/
import Derived.Test.YtmnpnnegnlhemaaEm
namespace Go.Proofs.Ytmnpnnegnlhemaa.Eng
open Go

structure Stat (ops : List Oper) (M : List Nat) : Prop where
  back : ∀ i o, onth ops i = some o → ∀ e ∈ edges o, e < i
  trans : ∀ i o j, onth ops i = some o → j < ops.length → anc M j i = true → ∃ e ∈ edges o, e = j ∨ anc M j e = true
  slot : ∀ i o t j, onth ops i = some o → t ∈ slotsOf ops o → j < ops.length → j ≠ i → gdst (onth ops j) = some t → anc M j i = true ∨ anc M i j = true

theorem onth_lt {ops : List Oper} {i : Nat} {o : Oper} (h : onth ops i = some o) : i < ops.length := by
  rw [onth_eq] at h
  exact (List.getElem?_eq_some_iff.1 h).1

theorem onth_some {ops : List Oper} {i : Nat} (h : i < ops.length) : ∃ o, onth ops i = some o := by
  rw [onth_eq]; exact ⟨_, List.getElem?_eq_getElem h⟩

theorem stat_of {ops : List Oper} (h : statOk ops = true) : Stat ops (masks ops []) := by
  have get : ∀ i o, onth ops i = some o → statOk1 ops (masks ops []) i o = true := by
    intro i o ho
    unfold statOk at h
    rw [List.all_eq_true] at h
    have := h i (by simpa using onth_lt ho)
    rw [ho] at this
    exact this
  refine ⟨?_, ?_, ?_⟩
  · intro i o ho e he
    have := get i o ho
    simp only [statOk1, Bool.and_eq_true, List.all_eq_true] at this
    simpa using this.1.1 e he
  · intro i o j ho hj ha
    have := get i o ho
    simp only [statOk1, Bool.and_eq_true, List.all_eq_true] at this
    have := this.1.2 j (by simpa using hj)
    rw [ha] at this
    simp only [Bool.not_true, Bool.false_or, List.any_eq_true, Bool.or_eq_true, beq_iff_eq] at this
    exact this
  · intro i o t j ho ht hj hne hd
    have := get i o ho
    simp only [statOk1, Bool.and_eq_true, List.all_eq_true] at this
    have := this.2 t ht j (by simpa using hj)
    simp only [Bool.or_eq_true, beq_iff_eq, Bool.not_eq_true', hd, hne, false_or, beq_self_eq_true, Bool.true_eq_false] at this
    exact this

/-- What has run is closed under what must be ahead. -/
def Closed (ops : List Oper) (L : Array Bool) : Prop := ∀ i o, onth ops i = some o → onL L i = true → ∀ e ∈ edges o, onL L e = true

theorem mem_edges {o : Oper} {e : Nat} : e ∈ edges o ↔ ∃ x ∈ o.after, Region.binds .any x = true ∧ x.on = e := by
  simp [edges, and_assoc]

theorem anc_on {ops : List Oper} {M : List Nat} (hS : Stat ops M) {L : Array Bool} (hc : Closed ops L) : ∀ (i : Nat) (o : Oper), onth ops i = some o → (∀ e ∈ edges o, onL L e = true) → ∀ j, j < ops.length → anc M j i = true → onL L j = true := by
  intro i
  induction i using Nat.strongRecOn with
  | _ i ih =>
    intro o ho hpre j hj ha
    obtain ⟨e, he, h⟩ := hS.trans i o j ho hj ha
    rcases h with rfl | h
    · exact hpre _ he
    · have hlt := hS.back i o ho e he
      obtain ⟨oe, hoe⟩ := onth_some (show e < ops.length from Nat.lt_trans hlt (onth_lt ho))
      exact ih e hlt oe hoe (hc e oe hoe (hpre e he)) j hj h

theorem anc_lt {ops : List Oper} {M : List Nat} (hS : Stat ops M) : ∀ (i : Nat) (o : Oper), onth ops i = some o → ∀ j, j < ops.length → anc M j i = true → j < i := by
  intro i
  induction i using Nat.strongRecOn with
  | _ i ih =>
    intro o ho j hj ha
    obtain ⟨e, he, h⟩ := hS.trans i o j ho hj ha
    have hlt := hS.back i o ho e he
    rcases h with rfl | h
    · exact hlt
    · obtain ⟨oe, hoe⟩ := onth_some (show e < ops.length from Nat.lt_trans hlt (onth_lt ho))
      exact Nat.lt_trans (ih e hlt oe hoe j hj h) hlt

section
variable {P : Program} {g : G} {Γ : Con} {ops : List Oper} {b : Nat} {τ0 : List SV} {H0 : List AB}

theorem onL_set {L : Array Bool} {i : Nat} (hi : i < L.size) (j : Nat) : onL (L.setIfInBounds i true) j = (onL L j || j == i) := by
  unfold onL
  by_cases h : i = j
  · subst h; simp [hi]
  · rw [getD_set_ne false h]
    have : (j == i) = false := by simpa using Ne.symm h
    simp [this]

/-- The operation that comes up next, whatever has run: what it gives. -/
theorem next_facts {M : List Nat} (hM : M = masks ops []) (hS : Stat ops M) {plan : List (List Nat × Nat)} (hpl : plan = mkPlan ops)
    (hp : preL P g.E Γ ops b τ0 H0 ops.length) (hch : chkL P g.E Γ ops b τ0 H0 plan) {L : Array Bool} (hL : L.size = ops.length) (hc : Closed ops L) {i : Nat} {o : Oper} (ho : onth ops i = some o) (hi : onL L i = false)
    (hpre : ∀ e ∈ edges o, onL L e = true) :
    (stp P g.E Γ ops b i (pref P g.E Γ ops b τ0 H0 i).1 (hpOf P g.E Γ ops b τ0 H0 ((effD ops ops.length).filter (onL L)))).pre ∧
    (stp P g.E Γ ops b i (pref P g.E Γ ops b τ0 H0 i).1 (hpOf P g.E Γ ops b τ0 H0 ((effD ops ops.length).filter (onL L)))).val = (stp P g.E Γ ops b i (pref P g.E Γ ops b τ0 H0 i).1 (pref P g.E Γ ops b τ0 H0 i).2).val ∧
    (stp P g.E Γ ops b i (pref P g.E Γ ops b τ0 H0 i).1 (hpOf P g.E Γ ops b τ0 H0 ((effD ops ops.length).filter (onL L)))).heap = hpOf P g.E Γ ops b τ0 H0 ((effD ops ops.length).filter (onL (L.setIfInBounds i true))) := by
  have hin := onth_lt ho
  have hset := onL_set (L := L) (i := i) (by omega)
  have hti := preL_lt P g.E Γ ops b τ0 H0 hp hin
  have hth := text_heap P g.E Γ ops b τ0 H0 ops.length hp i (by omega)
  have hanc := anc_on hS hc i o ho hpre
  -- the versions behind it
  have hT' : (effD ops ops.length).filter (onL (L.setIfInBounds i true)) = (effD ops ops.length).filter (fun j => onL L j || j == i) := by
    congr 1; funext j; exact hset j
  have hneff : effAt ops i = false → (effD ops ops.length).filter (onL (L.setIfInBounds i true)) = (effD ops ops.length).filter (onL L) := by
    intro he
    rw [hT']
    apply List.filter_congr
    intro j hj
    have hne : (j == i) = false := by
      cases hb : j == i with
      | false => rfl
      | true =>
        have : j = i := by simpa using hb
        subst this
        have := (effD_lt ops _ _ hj).2
        rw [he] at this; cases this
    simp [hne]
  by_cases hpure : pureAt ops i = true
  · -- it looks at no heap
    have hpo : pureOp o.op = true := by unfold pureAt at hpure; rw [ho] at hpure; exact hpure
    have he : effAt ops i = false := by unfold effAt; rw [ho]; simp [effOp, hpo]
    have hk := stepR_keeps P g.E Γ ops (qAt ops b i) o (pref P g.E Γ ops b τ0 H0 i).1 hpo (pref P g.E Γ ops b τ0 H0 i).2 (hpOf P g.E Γ ops b τ0 H0 ((effD ops ops.length).filter (onL L)))
    have es : ∀ H, stp P g.E Γ ops b i (pref P g.E Γ ops b τ0 H0 i).1 H = stepR P g.E Γ ops (qAt ops b i) o (pref P g.E Γ ops b τ0 H0 i).1 H := fun H => by unfold stp; rw [ho]
    have hpi := hti
    rw [es] at hpi
    have h1 := hk.1.2 hpi
    refine ⟨by rw [es]; exact h1, by rw [es, es]; exact hk.2, ?_⟩
    rw [hneff he, es]
    exact stepR_heap P g.E Γ ops _ o _ (by unfold effAt at he; rw [ho] at he; exact he) _ h1
  · by_cases htext : (effD ops ops.length).filter (onL L) = effD ops i
    · -- as in the text
      rw [htext, ← hth]
      refine ⟨hti, rfl, ?_⟩
      cases he : effAt ops i with
      | false =>
        rw [hneff he, htext, stp_heap P g.E Γ ops b he hti]
        exact hth
      | true =>
        have e1 : (effD ops ops.length).filter (onL (L.setIfInBounds i true)) = effD ops (i + 1) := by
          rw [hT', ← effD_filter ops (i + 1) ops.length (by omega)]
          apply List.filter_congr
          intro j hj
          have hmem : onL L j = decide (j < i) := by
            have h2 : j ∈ (effD ops ops.length).filter (onL L) ↔ j ∈ effD ops i := by rw [htext]
            rw [List.mem_filter] at h2
            cases hc' : onL L j with
            | true =>
              have := (effD_lt ops _ _ (h2.1 ⟨hj, hc'⟩)).1
              simp [this]
            | false =>
              symm
              rw [decide_eq_false_iff_not]
              intro hlt
              have := h2.2 (mem_effD ops i j hlt (effD_lt ops _ _ hj).2)
              rw [hc'] at this; cases this.2
          rw [hmem]
          by_cases q : j = i
          · subst q; simp
          · have : (j == i) = false := by simpa using q
            rw [this, Bool.or_false]
            rw [decide_eq_decide]
            omega
        rw [e1]
        unfold effD
        rw [he]
        simp only [hpOf]
        rw [hth]
    · -- at another time than in the text
      have hmem : ((effD ops ops.length).filter (onL L), i) ∈ plan := by
        rw [hpl]
        unfold mkPlan
        rw [List.mem_flatMap]
        refine ⟨_, filter_mem_subs (onL L) _, ?_⟩
        rw [List.mem_map]
        refine ⟨i, ?_, rfl⟩
        rw [List.mem_filter]
        refine ⟨by simpa using hin, ?_⟩
        rw [← hM]
        have c1 : ((effD ops ops.length).filter (onL L)).contains i = false := by
          cases hb : ((effD ops ops.length).filter (onL L)).contains i with
          | false => rfl
          | true =>
            rw [List.contains_iff_mem, List.mem_filter] at hb
            rw [hi] at hb; cases hb.2
        have c2 : (effD ops ops.length).all (fun j => !(anc M j i) || ((effD ops ops.length).filter (onL L)).contains j) = true := by
          rw [List.all_eq_true]
          intro j hj
          cases ha : anc M j i with
          | false => rfl
          | true =>
            simp only [Bool.not_true, Bool.false_or, List.contains_iff_mem, List.mem_filter]
            exact ⟨hj, hanc j (effD_lt ops _ _ hj).1 ha⟩
        have c3 : ((effD ops ops.length).filter (onL L)).all (fun j => !(anc M i j)) = true := by
          rw [List.all_eq_true]
          intro j hj
          rw [List.mem_filter] at hj
          cases ha : anc M i j with
          | false => rfl
          | true =>
            obtain ⟨oj, hoj⟩ := onth_some (effD_lt ops _ _ hj.1).1
            have := anc_on hS hc j oj hoj (hc j oj hoj hj.2) i hin ha
            rw [hi] at this; cases this
        have c4 : ((effD ops ops.length).filter (onL L)).all (fun j => (effD ops ops.length).all fun k => !(anc M k j) || ((effD ops ops.length).filter (onL L)).contains k) = true := by
          rw [List.all_eq_true]
          intro j hj
          rw [List.mem_filter] at hj
          rw [List.all_eq_true]
          intro k hk
          cases ha : anc M k j with
          | false => rfl
          | true =>
            obtain ⟨oj, hoj⟩ := onth_some (effD_lt ops _ _ hj.1).1
            simp only [Bool.not_true, Bool.false_or, List.contains_iff_mem, List.mem_filter]
            exact ⟨hk, anc_on hS hc j oj hoj (hc j oj hoj hj.2) k (effD_lt ops _ _ hk).1 ha⟩
        have c5 : pureAt ops i = false := by simpa using hpure
        have c6 : ((effD ops ops.length).filter (onL L) == (effD ops ops.length).filter (fun j => decide (j < i))) = false := by
          rw [effD_filter ops i ops.length (by omega)]
          simpa using htext
        unfold possB
        rw [c1, c2, c3, c4, c5, c6]
        rfl
      have hk := chkL_mem P g.E Γ ops b τ0 H0 hch hmem
      unfold chk at hk
      have hk' : ∀ r : Res, chk2 (effAt ops i) (stp P g.E Γ ops b i (pref P g.E Γ ops b τ0 H0 i).1 (pref P g.E Γ ops b τ0 H0 i).2).val (hpOf P g.E Γ ops b τ0 H0 (insE (effD ops ops.length) ((effD ops ops.length).filter (onL L)) i)) r →
          r.pre ∧ r.val = (stp P g.E Γ ops b i (pref P g.E Γ ops b τ0 H0 i).1 (pref P g.E Γ ops b τ0 H0 i).2).val ∧ (effAt ops i = true → r.heap = hpOf P g.E Γ ops b τ0 H0 (insE (effD ops ops.length) ((effD ops ops.length).filter (onL L)) i)) := by
        intro r hr
        obtain ⟨p, v, h⟩ := r
        simp only [chk2] at hr
        exact ⟨hr.1, hr.2.1, fun he => by rw [he] at hr; exact hr.2.2⟩
      obtain ⟨k1, k2, k3⟩ := hk' _ hk
      refine ⟨k1, k2, ?_⟩
      cases he : effAt ops i with
      | false => rw [hneff he, stp_heap P g.E Γ ops b he k1]
      | true =>
        rw [k3 he, hT']
        congr 1
        unfold insE
        apply List.filter_congr
        intro j hj
        have : ((effD ops ops.length).filter (onL L)).contains j = onL L j := by
          rw [Bool.eq_iff_iff, List.contains_iff_mem, List.mem_filter]
          simp [hj]
        rw [this]

/-- What holds at each time of a drawn region. -/
structure Inv (P : Program) (g : G) (Γ : Con) (ops : List Oper) (b : Nat) (τ0 : List SV) (H0 : List AB) (ρ0 : Env) (ds : List Deferred) (L : Array Bool) (a : Act) (w : World) : Prop where
  size : L.size = ops.length
  closed : Closed ops L
  rest : ∃ ρ, Env.le ρ0 ρ ∧ Sat g ρ (hpOf P g.E Γ ops b τ0 H0 ((effD ops ops.length).filter (onL L))) w ∧ ∀ t, R ρ (look P g.E Γ ops b τ0 H0 L t ops.length) (a.tmps.getD t undef)
  tmps : a.tmps.size = τ0.length
  defers : a.defers = ds

theorem inv_step {M : List Nat} (hM : M = masks ops []) (hS : Stat ops M) {plan : List (List Nat × Nat)} (hpl : plan = mkPlan ops) (hΓ : Con.Sound P g.E Γ)
    (hp : preL P g.E Γ ops b τ0 H0 ops.length) (hch : chkL P g.E Γ ops b τ0 H0 plan) {ρ0 : Env} {ds : List Deferred} {Q : Exit → Act → World → Prop} {L : Array Bool} {a : Act} {w : World}
    (hI : Inv P g Γ ops b τ0 H0 ρ0 ds L a w) {i : Nat} (hi : i ∈ Region.ready .any ops.toArray L) {K : Act → World → Prop}
    (hK : ∀ a' w', Inv P g Γ ops b τ0 H0 ρ0 ds (L.setIfInBounds i true) a' w' → K a' w') : wpOp P ops.toArray Q i K a w := by
  rw [mem_ready] at hi
  obtain ⟨hun, o, ho, hpre⟩ := hi
  have ho' : onth ops i = some o := by rw [onth_eq]; simpa using ho
  have hin := onth_lt ho'
  have hiL : i < L.size := by rw [hI.size]; exact hin
  have hi0 : onL L i = false := by
    unfold onL
    have e1 : L.getD i true = L[i] := by simp [Array.getD, hiL]
    have e2 : L.getD i false = L[i] := by simp [Array.getD, hiL]
    rw [e2, ← e1]; exact hun
  have hpre' : ∀ e ∈ edges o, onL L e = true := by
    intro e he
    obtain ⟨x, hx, hb, rfl⟩ := mem_edges.1 he
    exact hpre x hx hb
  obtain ⟨n1, n2, n3⟩ := next_facts hM hS hpl hp hch hI.size hI.closed ho' hi0 hpre'
  obtain ⟨ρ, r1, r2, r3⟩ := hI.rest
  have hanc := anc_on hS hI.closed i o ho' hpre'
  -- a slot that it looks at holds what it held in the text's order
  have hslot : ∀ t, t ∈ slotsOf ops o → ∀ j, j < ops.length → gdst (onth ops j) = some t → (onL L j = true ↔ j < i) := by
    intro t ht j hj hd
    by_cases e : j = i
    · subst e; simp [hi0]
    · rcases hS.slot i o t j ho' ht hj e hd with h | h
      · have h1 := hanc j hj h
        have h2 := anc_lt hS i o ho' j hj h
        simp [h1, h2]
      · obtain ⟨oj, hoj⟩ := onth_some hj
        have h2 := anc_lt hS j oj hoj i hin h
        constructor
        · intro hon
          have := anc_on hS hI.closed j oj hoj (hI.closed j oj hoj hon) i hin h
          rw [hi0] at this; cases this
        · intro hlt; omega
  have hlook : ∀ t, t ∈ slotsOf ops o → look P g.E Γ ops b τ0 H0 L t ops.length = tg (pref P g.E Γ ops b τ0 H0 i).1 t := fun t ht =>
    look_at P g.E Γ ops b τ0 H0 L t i ops.length (by omega) (hslot t ht)
  -- the slots as a list
  have hlen := pref_length P g.E Γ ops b τ0 H0 i
  have hτ : ∀ t, tg ((List.range τ0.length).map fun t => look P g.E Γ ops b τ0 H0 L t ops.length) t = if t < τ0.length then look P g.E Γ ops b τ0 H0 L t ops.length else .raw undef := by
    intro t
    rw [tg_eq]
    by_cases h : t < τ0.length
    · simp [h]
    · simp [h]
  have hRL : RL ρ ((List.range τ0.length).map fun t => look P g.E Γ ops b τ0 H0 L t ops.length) a.tmps.toList := by
    refine RL_of_get (by simp [hI.tmps]) (fun t => ?_)
    rw [hτ]
    have e : a.tmps.toList.getD t undef = a.tmps.getD t undef := by simp [Array.getD_eq_getD_getElem?]
    rw [e]
    split
    · exact r3 t
    · rename_i h
      rw [Array.getD_eq_getD_getElem?, Array.getElem?_eq_none (by rw [hI.tmps]; omega)]
      simp [R]
  have hsame : ∀ t, t ∈ slotsOf ops o → tg ((List.range τ0.length).map fun t => look P g.E Γ ops b τ0 H0 L t ops.length) t = tg (pref P g.E Γ ops b τ0 H0 i).1 t := by
    intro t ht
    rw [hτ]
    split
    · exact hlook t ht
    · rename_i h
      rw [tg_eq, List.getElem?_eq_none (by rw [hlen]; omega)]
      rfl
  have hcongr : ∀ H, stepR P g.E Γ ops (qAt ops b i) o ((List.range τ0.length).map fun t => look P g.E Γ ops b τ0 H0 L t ops.length) H = stepR P g.E Γ ops (qAt ops b i) o (pref P g.E Γ ops b τ0 H0 i).1 H := by
    intro H
    refine stepR_congr P g.E Γ ops _ o H (fun x hx => ?_) (fun j want hg => ?_)
    · cases x with
      | tmp t => exact hsame t (by simp only [slotsOf, List.mem_append]; exact .inl (.inl (mem_tmpsOf hx)))
      | _ => rfl
    · cases hd : gdst (onth ops j) with
      | none => rfl
      | some d =>
        simp only [gslot]
        exact hsame d (by simp only [slotsOf, hg, List.mem_append, hd, Option.toList]; exact .inl (.inr (by simp)))
  have es : ∀ H, stp P g.E Γ ops b i (pref P g.E Γ ops b τ0 H0 i).1 H = stepR P g.E Γ ops (qAt ops b i) o (pref P g.E Γ ops b τ0 H0 i).1 H := fun H => by unfold stp; rw [ho']
  rw [es] at n1
  rw [es, es] at n2
  rw [es] at n3
  unfold wpOp
  rw [ho]
  refine wp_op_step (q := qAt ops b i) r2 hΓ hRL (by rw [hcongr]; exact n1) (fun ρ' a' w' x k1 k2 k3 k4 => ?_)
  subst k4
  rw [hcongr] at k2 k3
  rw [n3] at k2
  rw [n2] at k3
  refine hK _ _ ⟨by simp [hI.size], ?_, ⟨ρ', Env.le_trans r1 k1, k2, ?_⟩, ?_, by rw [put_defers]; exact hI.defers⟩
  · intro j oj hoj hon e he
    rw [onL_set hiL] at hon ⊢
    by_cases q : j = i
    · subst q
      rw [ho'] at hoj; cases hoj
      rw [hpre' e he]; rfl
    · have : (j == i) = false := by simpa using q
      rw [this, Bool.or_false] at hon
      rw [hI.closed j oj hoj hon e he]; rfl
  · intro t
    by_cases hd : gdst (onth ops i) = some t
    · -- the slot that it writes
      have hod : o.dst = some t := by rw [ho'] at hd; exact hd
      have hts : t ∈ slotsOf ops o := by simp [slotsOf, hod]
      have hl : look P g.E Γ ops b τ0 H0 (L.setIfInBounds i true) t ops.length = tg (pref P g.E Γ ops b τ0 H0 (i + 1)).1 t := by
        refine look_at P g.E Γ ops b τ0 H0 _ t (i + 1) ops.length (by omega) (fun j hj hdj => ?_)
        rw [onL_set hiL, Bool.or_eq_true, beq_iff_eq, hslot t hts j hj hdj]
        omega
      rw [hl]
      have hpr : (pref P g.E Γ ops b τ0 H0 (i + 1)).1 = tput (pref P g.E Γ ops b τ0 H0 i).1 (some t) (stepR P g.E Γ ops (qAt ops b i) o (pref P g.E Γ ops b τ0 H0 i).1 (pref P g.E Γ ops b τ0 H0 i).2).val := by
        simp only [pref, nxt, hd, es]
      rw [hpr, hod]
      simp only [tput, tset_eq, tg_eq, Act.put]
      have htm := hI.tmps
      by_cases hlt : t < a.tmps.size
      · rw [List.getElem?_set_self (by rw [hlen]; omega)]
        simpa [hlt] using k3
      · rw [List.getElem?_eq_none (by simp [hlen]; omega)]
        have : (a.tmps.setIfInBounds t x).getD t undef = undef := by
          rw [Array.getD_eq_getD_getElem?, Array.getElem?_eq_none (by simp; omega)]
          rfl
        rw [this]
        simp [R]
    · rw [look_set P g.E Γ ops b τ0 H0 L t i hd]
      have : (a.put o.dst x).tmps.getD t undef = a.tmps.getD t undef := by
        rw [ho'] at hd
        simp only [gdst] at hd
        cases hod : o.dst with
        | none => rfl
        | some d =>
          rw [hod] at hd
          simp only [Act.put]
          rw [Array.getD_eq_getD_getElem?, Array.getD_eq_getD_getElem?, Array.getElem?_setIfInBounds_ne (by rintro rfl; exact hd rfl)]
      rw [this]
      exact R.mono k1 _ _ (r3 t)
  · cases hod : o.dst with
    | none => exact hI.tmps
    | some d => simp only [Act.put, Array.size_setIfInBounds]; exact hI.tmps

theorem ready_full {L : Array Bool} (hL : L.size = ops.length) (hS : Stat ops (masks ops [])) (h : Region.ready .any ops.toArray L = []) : ∀ i, i < ops.length → onL L i = true := by
  intro i
  induction i using Nat.strongRecOn with
  | _ i ih =>
    intro hi
    cases hc : onL L i with
    | true => rfl
    | false =>
      exfalso
      obtain ⟨o, ho⟩ := onth_some hi
      have hm : i ∈ Region.ready .any ops.toArray L := by
        rw [mem_ready]
        have hiL : i < L.size := by omega
        refine ⟨?_, o, by rw [onth_eq] at ho; simpa using ho, fun x hx hb => ?_⟩
        · have e1 : L.getD i true = L[i] := by simp [Array.getD, hiL]
          have e2 : L.getD i false = L[i] := by simp [Array.getD, hiL]
          rw [e1, ← e2]; exact hc
        · have hlt := hS.back i o ho x.on (mem_edges.2 ⟨x, hx, hb, rfl⟩)
          exact ih x.on hlt (by omega)
      rw [h] at hm
      cases hm

theorem inv_any {M : List Nat} (hM : M = masks ops []) (hS : Stat ops M) {plan : List (List Nat × Nat)} (hpl : plan = mkPlan ops) (hΓ : Con.Sound P g.E Γ)
    (hp : preL P g.E Γ ops b τ0 H0 ops.length) (hch : chkL P g.E Γ ops b τ0 H0 plan) {ρ0 : Env} {ds : List Deferred} {Q : Exit → Act → World → Prop}
    (hQ : ∀ ρ a w, Env.le ρ0 ρ → Sat g ρ (pref P g.E Γ ops b τ0 H0 ops.length).2 w → RL ρ (pref P g.E Γ ops b τ0 H0 ops.length).1 a.tmps.toList → a.defers = ds → Q .normal a w) :
    ∀ (fuel : Nat) (L : Array Bool) (a : Act) (w : World), Inv P g Γ ops b τ0 H0 ρ0 ds L a w → (∀ i, i < ops.length → onL L i = true) ∨ (∃ k, k ≤ fuel ∧ ((List.range ops.length).filter (fun i => !(onL L i))).length = k) →
    wpAny P .any ops.toArray Q fuel L a w := by
  have done : ∀ (L : Array Bool) (a : Act) (w : World), Inv P g Γ ops b τ0 H0 ρ0 ds L a w → (∀ i, i < ops.length → onL L i = true) → Q .normal a w := by
    intro L a w hI hall
    obtain ⟨ρ, r1, r2, r3⟩ := hI.rest
    have hf : (effD ops ops.length).filter (onL L) = effD ops ops.length := by
      rw [List.filter_eq_self]
      intro j hj
      exact hall j (effD_lt ops _ _ hj).1
    rw [hf, ← text_heap P g.E Γ ops b τ0 H0 ops.length hp ops.length (Nat.le_refl _)] at r2
    refine hQ ρ a w r1 r2 ?_ hI.defers
    refine RL_of_get (by rw [pref_length]; simp [hI.tmps]) (fun t => ?_)
    have e : a.tmps.toList.getD t undef = a.tmps.getD t undef := by simp [Array.getD_eq_getD_getElem?]
    rw [e, ← look_at P g.E Γ ops b τ0 H0 L t ops.length ops.length (Nat.le_refl _) (fun j hj _ => by simp [hall j hj, hj])]
    exact r3 t
  intro fuel
  induction fuel with
  | zero =>
    intro L a w hI h
    have hall : ∀ i, i < ops.length → onL L i = true := by
      rcases h with h | ⟨k, hk, hl⟩
      · exact h
      · intro i hi
        have : ((List.range ops.length).filter (fun i => !(onL L i))) = [] := List.eq_nil_of_length_eq_zero (by omega)
        rw [List.filter_eq_nil_iff] at this
        simpa using this i (by simpa using hi)
    refine ⟨?_, done L a w hI hall⟩
    apply List.eq_nil_iff_forall_not_mem.2
    intro i hi
    rw [mem_ready] at hi
    obtain ⟨h1, o, ho, _⟩ := hi
    have hi' : i < ops.length := by have := (Array.getElem?_eq_some_iff.1 ho).1; simpa using this
    have h2 := hall i hi'
    have hiL : i < L.size := by rw [hI.size]; exact hi'
    unfold onL at h2
    have e1 : L.getD i true = L[i] := by simp [Array.getD, hiL]
    have e2 : L.getD i false = L[i] := by simp [Array.getD, hiL]
    rw [e2, ← e1, h1] at h2
    cases h2
  | succ fuel ih =>
    intro L a w hI h
    refine ⟨fun hr => done L a w hI (ready_full hI.size (hM ▸ hS) hr), fun i hi => ?_⟩
    refine inv_step hM hS hpl hΓ hp hch hI hi (fun a' w' hI' => ih _ a' w' hI' ?_)
    -- one less is left
    rw [mem_ready] at hi
    obtain ⟨h1, o, ho, _⟩ := hi
    have hi' : i < ops.length := by have := (Array.getElem?_eq_some_iff.1 ho).1; simpa using this
    have hiL : i < L.size := by rw [hI.size]; exact hi'
    have h0 : onL L i = false := by
      unfold onL
      have e1 : L.getD i true = L[i] := by simp [Array.getD, hiL]
      have e2 : L.getD i false = L[i] := by simp [Array.getD, hiL]
      rw [e2, ← e1]; exact h1
    rcases h with h | ⟨k, hk, hl⟩
    · rw [h i hi'] at h0; cases h0
    · right
      refine ⟨_, ?_, rfl⟩
      have hlt : ((List.range ops.length).filter (fun j => !(onL (L.setIfInBounds i true) j))).length < ((List.range ops.length).filter (fun j => !(onL L j))).length := by
        have hsub : (List.range ops.length).filter (fun j => !(onL (L.setIfInBounds i true) j)) = ((List.range ops.length).filter (fun j => !(onL L j))).filter (fun j => !(j == i)) := by
          rw [List.filter_filter]
          apply List.filter_congr
          intro j _
          rw [onL_set hiL]
          cases onL L j <;> cases j == i <;> rfl
        rw [hsub]
        apply List.length_filter_lt_length_iff_exists.2
        exact ⟨i, by rw [List.mem_filter]; exact ⟨by simpa using hi', by simp [h0]⟩, by simp⟩
      omega

/-- **A region that draws its order, walked in the text's order.** -/
theorem drawn_sound (hm : P.follows .mixedOrders = true) (hst : statOk ops = true) {plan : List (List Nat × Nat)} (hpl : plan = mkPlan ops) (hΓ : Con.Sound P g.E Γ) {ρ0 : Env} {a : Act} {w : World} {Q : Exit → Act → World → Prop} {id : Nat}
    (hs : Sat g ρ0 H0 w) (ht : RL ρ0 τ0 a.tmps.toList)
    (hp : preL P g.E Γ ops b τ0 H0 ops.length) (hch : chkL P g.E Γ ops b τ0 H0 plan)
    (hQ : ∀ ρ a' w', Env.le ρ0 ρ → Sat g ρ (pref P g.E Γ ops b τ0 H0 ops.length).2 w' → RL ρ (pref P g.E Γ ops b τ0 H0 ops.length).1 a'.tmps.toList → a'.defers = a.defers → Q .normal a' w') :
    (Code.region id ops.toArray true).wp P Q a w := by
  refine wp_region_any hm (inv_any rfl (stat_of hst) hpl hΓ hp hch hQ _ _ _ _ ?_ ?_)
  · have h0 : ∀ j, onL (Array.replicate ops.toArray.size false) j = false := by
      intro j; unfold onL
      by_cases h : j < ops.length
      · simp [Array.getD, h]
      · simp [Array.getD, h]
    refine ⟨by simp, fun i o _ hon => (by rw [h0] at hon; cases hon), ⟨ρ0, Env.le_refl _, ?_, fun t => ?_⟩, ?_, rfl⟩
    · have : (effD ops ops.length).filter (onL (Array.replicate ops.toArray.size false)) = [] := by
        rw [List.filter_eq_nil_iff]; intro j _; rw [h0]; simp
      rw [this]
      exact hs.same rfl rfl rfl rfl
    · have : look P g.E Γ ops b τ0 H0 (Array.replicate ops.toArray.size false) t ops.length = tg τ0 t := by
        rw [look_high P g.E Γ ops b τ0 H0 _ t 0 ops.length (by omega) (fun j _ _ _ => h0 j)]
        rfl
      rw [this]
      exact R_tg ht t
    · have := ht.length; simpa using this.symm
  · right
    refine ⟨_, ?_, rfl⟩
    have := List.length_filter_le (fun i => !(onL (Array.replicate ops.toArray.size false) i)) (List.range ops.length)
    simpa using this
end

end Go.Proofs.Ytmnpnnegnlhemaa.Eng
