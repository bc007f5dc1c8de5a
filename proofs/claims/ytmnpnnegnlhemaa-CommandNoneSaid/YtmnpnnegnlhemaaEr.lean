/- The engine's ground for a range over a function: from the plain walk to the fenced one; what a step keeps; a call of yield. Plain lemmas; no statement of the seat. -/
import Derived.Test.YtmnpnnegnlhemaaEn
import Derived.OrdersIn
import Derived.TacticsIn
import Derived.RangeFuncLeaves
import Derived.RangeFuncRecord
import Derived.Below
namespace Go.Proofs.Ytmnpnnegnlhemaa.Eng
open Go

def FR (r : Option Nat) : Fence := { Fence.wide with round := r }

theorem FR_room (r : Option Nat) (n : Nat) : (FR r).room n := fun _ h => by simp [FR, Fence.wide] at h

theorem callsIn_FR {r : Option Nat} {n : Nat} {P : Program} {f : FuncId} {args : Array Value} {w : World} {R : Ending → World → Prop} : CallsIn (FR r) n P f args w R ↔ Calls P f args w R := callsIn_wide (n := n)

theorem roundIn_FR {r : Option Nat} {n m : Nat} {P : Program} {l : Nat} {f : FuncId} {tmps : Array Value} {as b : Code} {w : World} {R : Ending → World → Prop} (h : RoundIn Fence.wide m P l f tmps as b w R) : RoundIn (FR r) n P l f tmps as b w R :=
  ⟨trivial, fun c cs _ => h.2 c cs (room_wide _)⟩

theorem rowsIn_FR {r : Option Nat} {n : Nat} {P : Program} {row : String} {args : Array Value} {w : World} {R : Value → World → Prop} (h : Rows P row args w R) : RowsIn (FR r) n P row args w R :=
  fun c cs _ => let ⟨v, w', q, s⟩ := h c cs; ⟨v, w', q, stepsIn_wide.2 s⟩

/-- No deferred call. -/
def noDef (o : Oper) : Bool := match o.op with
  | .defer _ => false
  | _ => true

theorem noDef_spec {o : Oper} (h : noDef o = true) : ∀ c, o.op ≠ .defer c := by
  intro c e
  simp [noDef, e] at h

section
variable {P : Program} {rd : Option Nat} {n : Nat}

theorem upon_in {o : Oper} {a : Act} {K : Act → World → Prop} {Q : Exit → Act → World → Prop} : ∀ {r : Result Next}, o.upon P a K Q r → o.uponIn (FR rd) n P a K Q r := by
  intro r h
  cases r with
  | ok x w =>
    cases x with
    | enter f args =>
      refine ⟨fun e => by simp [FR, Fence.wide] at e, callsIn_FR.2 ?_⟩
      exact Calls.mono h fun e w' he => by cases e <;> exact he
    | row r args => exact ⟨fun e => by simp [FR, Fence.wide] at e, rowsIn_FR h⟩
    | _ => first | exact h | exact h.elim
  | halt s w =>
    cases s with
    | panic v => exact h
    | _ => exact h.elim

theorem wp_in {o : Oper} {a : Act} {w : World} {K : Act → World → Prop} {Q : Exit → Act → World → Prop} (hd : noDef o = true) (h : o.wp P a w K Q) : o.wpIn (FR rd) n P a w K Q :=
  ⟨fun _ _ => trivial, by rw [Oper.semAt_eq _ _ _ (noDef_spec hd)]; exact upon_in h⟩

theorem list_in {ops : Array Oper} {Q : Exit → Act → World → Prop} (hQ : ¬ LetsOut Q) : ∀ (r : List Oper) (a : Act) (w : World), r.all noDef = true → wpList P ops Q r a w → wpListIn (FR rd) n P ops Q r a w
  | [], _, _, _, h => h
  | o :: r, a, w, hd, h => by
    simp only [List.all_cons, Bool.and_eq_true] at hd
    simp only [wpList] at h
    simp only [wpListIn]
    split
    · rename_i hw
      simp only [hw, if_true] at h
      rcases h with h | h
      · exact Oper.wpIn_mono (fun a w hh => list_in hQ r a w hd.2 hh) (wp_in hd.1 h)
      · exact absurd h.2 hQ
    · rename_i hw
      simp only [hw] at h
      exact ⟨fun _ _ => trivial, list_in hQ r _ w hd.2 h⟩

theorem any_in {ops : List Oper} {Q : Exit → Act → World → Prop} (hQ : ¬ LetsOut Q) (hd : ops.all noDef = true) : ∀ (fuel : Nat) (L : Array Bool) (a : Act) (w : World), wpAny P .any ops.toArray Q fuel L a w → wpAnyIn (FR rd) n P .any ops.toArray Q fuel L a w
  | 0, _, _, _, h => h
  | fuel + 1, L, a, w, h => by
    refine ⟨h.1, fun i hi => ?_⟩
    have hh := h.2 i hi
    unfold wpOp at hh
    unfold wpOpIn
    split
    · rename_i e
      rw [e] at hh
      exact any_in hQ hd fuel _ a w hh
    · rename_i o e
      rw [e] at hh
      have ho : noDef o = true := by
        rw [List.all_eq_true] at hd
        exact hd o (List.mem_of_getElem? (by simpa using e))
      simp only at hh
      split
      · rename_i hw
        simp only [hw, if_true] at hh
        rcases hh with hh | hh
        · exact Oper.wpIn_mono (fun a w h' => any_in hQ hd fuel _ a w h') (wp_in ho hh)
        · exact absurd hh.2 hQ
      · rename_i hw
        simp only [hw] at hh
        exact ⟨fun _ _ => trivial, any_in hQ hd fuel _ _ w hh⟩
end

/-! ### What a step keeps -/
/-- The blocks that an abstract heap has. -/
def G.of (E : Addr → Option Value) (ρ : Env) (H : List AB) (w : World) : G := ⟨w, fun b => ∃ i ab c, H[i]? = some ab ∧ ab.live = true ∧ ρ i = some (b, c), E⟩

theorem Sat.self {g : G} {ρ : Env} {H : List AB} {w : World} (h : Sat g ρ H w) : Sat (G.of g.E ρ H w) ρ H w :=
  ⟨rfl, rfl, rfl, Nat.le_refl _, fun _ _ _ => rfl, h.blk, fun i ab b c hi hv hr => .inl ⟨i, ab, c, hi, hv, hr⟩, h.lt, h.inj, h.out, h.ro⟩

theorem Sat.comp {g : G} {ρ ρ' : Env} {H H' : List AB} {w w' : World} (h : Sat g ρ H w) (k : Sat (G.of g.E ρ H w) ρ' H' w') : Sat g ρ' H' w' := by
  refine ⟨k.os.trans h.os, k.tape.trans h.tape, k.output.trans h.output, Nat.le_trans h.size k.size, ?_, k.blk, ?_, k.lt, k.inj, k.out, k.ro⟩
  · intro b hb hA
    have hbw : b < w.heap.size := Nat.lt_of_lt_of_le hb h.size
    rw [k.keep b hbw ?_]
    · exact h.keep b hb hA
    · rintro ⟨i, ab, c, hi, hv, hr⟩
      rcases h.own i ab b c hi hv hr with q | q
      · exact hA q
      · omega
  · intro i ab b c hi hv hr
    rcases k.own i ab b c hi hv hr with ⟨i', ab', c', hi', hv', hr'⟩ | q
    · exact h.own i' ab' b c' hi' hv' hr'
    · exact .inr (Nat.le_trans h.size q)

/-- A block that is ours, and that no live index names. -/
structure Spare (g : G) (ρ : Env) (H : List AB) (w : World) (d : Nat) : Prop where
  size : g.w0.heap.size ≤ d
  lt : d < w.heap.size
  free : ∀ i ab b c, H[i]? = some ab → ab.live = true → ρ i = some (b, c) → b ≠ d
  ro : ∀ a v, g.E a = some v → a.block ≠ d

theorem Spare.comp {g : G} {ρ ρ' : Env} {H H' : List AB} {w w' : World} {d : Nat} (h : Spare g ρ H w d) (k : Sat (G.of g.E ρ H w) ρ' H' w') : Spare g ρ' H' w' d ∧ w'.heap[d]? = w.heap[d]? := by
  have hn : ¬ (G.of g.E ρ H w).A d := by
    rintro ⟨i, ab, c, hi, hv, hr⟩
    exact h.free i ab d c hi hv hr rfl
  refine ⟨⟨h.size, Nat.lt_of_lt_of_le h.lt k.size, ?_, h.ro⟩, k.keep d h.lt hn⟩
  intro i ab b c hi hv hr e
  subst e
  rcases k.own i ab b c hi hv hr with q | q
  · exact hn q
  · have hl := h.lt
    have : (G.of g.E ρ H w).w0.heap.size = w.heap.size := rfl
    omega

/-- Such a block turns. -/
theorem Sat.touch {g : G} {ρ : Env} {H : List AB} {w w' : World} {d : Nat} (h : Sat g ρ H w) (hd : Spare g ρ H w d)
    (h1 : w'.os = w.os) (h2 : w'.tape = w.tape) (h3 : w'.output = w.output) (h4 : w'.heap.size = w.heap.size) (hh : ∀ k, k ≠ d → w'.heap[k]? = w.heap[k]?) : Sat g ρ H w' := by
  refine ⟨h1.trans h.os, h2.trans h.tape, h3.trans h.output, by rw [h4]; exact h.size, ?_, ?_, h.own, ?_, h.inj, h.out, ?_⟩
  · intro b hb hA
    rw [hh b (by have := hd.size; omega)]
    exact h.keep b hb hA
  · intro i ab hi
    exact (h.blk i ab hi).mono (Env.le_refl _) rfl (fun b c hv hr => hh b (hd.free i ab b c hi hv hr))
  · intro i ab b c hi hv hr
    rw [h4]; exact h.lt i ab b c hi hv hr
  · intro a v e
    obtain ⟨q1, q2, q3⟩ := h.ro a v e
    refine ⟨?_, by rw [h4]; exact q2, q3⟩
    have : w'.heap[a.block]? = w.heap[a.block]? := hh _ (hd.ro a v e)
    unfold World.cell? at q1 ⊢
    rw [this]; exact q1

/-- A block that is new, and not named. -/
theorem Sat.grow {g : G} {ρ : Env} {H : List AB} {w : World} (h : Sat g ρ H w) (o : Obj) : Sat g ρ H (w.alloc o) ∧ Spare g ρ H (w.alloc o) w.heap.size := by
  have hh : ∀ k, k < w.heap.size → (w.alloc o).heap[k]? = w.heap[k]? := fun k hk => RowKit.Below.heap_alloc w o k hk
  have hsz : (w.alloc o).heap.size = w.heap.size + 1 := by simp
  refine ⟨⟨h.os, h.tape, h.output, by rw [hsz]; have := h.size; omega, ?_, ?_, h.own, ?_, h.inj, h.out, ?_⟩, h.size, by rw [hsz]; omega, ?_, ?_⟩
  · intro b hb hA
    rw [hh b (by have := h.size; omega)]
    exact h.keep b hb hA
  · intro i ab hi
    exact (h.blk i ab hi).mono (Env.le_refl _) rfl (fun b c hv hr => hh b (h.lt i ab b c hi hv hr))
  · intro i ab b c hi hv hr
    have := h.lt i ab b c hi hv hr
    rw [hsz]; omega
  · intro a v e
    obtain ⟨q1, q2, q3⟩ := h.ro a v e
    refine ⟨?_, by rw [hsz]; omega, q3⟩
    have : (w.alloc o).heap[a.block]? = w.heap[a.block]? := hh _ q2
    unfold World.cell? at q1 ⊢
    rw [this]; exact q1
  · intro i ab b c hi hv hr e
    have := h.lt i ab b c hi hv hr
    omega
  · intro a v e e'
    have := (h.ro a v e).2.1
    omega

/-- An index is given up: its block is spare. -/
theorem Sat.drop {g : G} {ρ : Env} {H : List AB} {w : World} (h : Sat g ρ H w) {i b : Nat} {c : Nat × Nat} {ab : AB} (hi : H[i]? = some ab) (hv : ab.live = true) (hr : ρ i = some (b, c)) (hs : g.w0.heap.size ≤ b) :
    Sat g ρ (H.set i .dead) w ∧ Spare g ρ (H.set i .dead) w b := by
  refine ⟨h.kill i, hs, h.lt i ab b c hi hv hr, ?_, fun a v e e' => (h.ro a v e).2.2 i ab b c hi hv hr e'.symm⟩
  intro j aj b' c' hj hvj hrj e
  subst e
  by_cases k : j = i
  · subst k
    rw [List.getElem?_set] at hj
    simp at hj
    rw [← hj.2] at hvj
    cases hvj
  · rw [List.getElem?_set_ne (Ne.symm k)] at hj
    exact k (h.inj j i aj ab b' c' c hj hi hvj hv hrj hr)

/-! ### A region with a call of yield -/
section
variable (P : Program) (E : Addr → Option Value) (Γ : Con)

def yieldR (τ : List SV) (H : List AB) (o : Oper) (args : List SV) (old : Res) : SV → Res
  | .fn (.yield l) [] [] => r0 (needs (sev τ) true (opNeeds o.op)) (Γ (.yield l) args H)
  | _ => old

def stepY (ops : List Oper) (o : Oper) (τ : List SV) (H : List AB) : Res :=
  match o.guard, o.op with
  | none, .call ⟨.value f, args, _⟩ => yieldR Γ τ H o (args.toList.map (unw (sev τ))) (stepR P E Γ ops none o τ H) (unw (sev τ) f)
  | _, _ => stepR P E Γ ops none o τ H

def srunY (ops : List Oper) : List Oper → Prop → List SV → List AB → St
  | [], acc, τ, H => ⟨acc, τ, H⟩
  | o :: r, acc, τ, H => contA (srunY ops r) acc o.dst τ (stepY P E Γ ops o τ H)

theorem srunY_acc (ops : List Oper) : ∀ (r : List Oper) (acc : Prop) (τ : List SV) (H : List AB), (srunY P E Γ ops r acc τ H).pre → acc
  | [], _, _, _, h => h
  | o :: r, acc, τ, H, h => by
    simp only [srunY] at h
    generalize stepY P E Γ ops o τ H = s at h
    obtain ⟨p, v, H'⟩ := s
    exact (srunY_acc ops r _ _ _ h).1
end

theorem wp_op_stepY {P : Program} {g : G} {ρ : Env} {H : List AB} {w : World} {Γ : Con} {ops : List Oper} {τ : List SV} {a : Act} {o : Oper} {rd : Option Nat} {n : Nat}
    (hs : Sat g ρ H w) (hΓ : Con.Sound P g.E Γ) (ht : RL ρ τ a.tmps.toList) (hd : noDef o = true) (h : (stepY P g.E Γ ops o τ H).pre)
    {K : Act → World → Prop} {Q : Exit → Act → World → Prop} (hQ : ¬ LetsOut Q)
    (hK : ∀ ρ' a' w' x, Env.le ρ ρ' → Sat g ρ' (stepY P g.E Γ ops o τ H).heap w' → R ρ' (stepY P g.E Γ ops o τ H).val x → a' = a.put o.dst x → K a' w') :
    if Region.wanted o (yielded ops.toArray a.tmps) then o.wpIn (FR rd) n P a w K Q else (∀ f, o.about P w a.eval = some f → (FR rd).fn f) ∧ K (a.put o.dst undef) w := by
  have plain : (stepR P g.E Γ ops none o τ H).pre → (∀ ρ' a' w' x, Env.le ρ ρ' → Sat g ρ' (stepR P g.E Γ ops none o τ H).heap w' → R ρ' (stepR P g.E Γ ops none o τ H).val x → a' = a.put o.dst x → K a' w') →
      if Region.wanted o (yielded ops.toArray a.tmps) then o.wpIn (FR rd) n P a w K Q else (∀ f, o.about P w a.eval = some f → (FR rd).fn f) ∧ K (a.put o.dst undef) w := by
    intro h hK
    have := wp_op_step (K := K) (Q := Q) hs hΓ ht h hK
    split
    · rename_i hw
      simp only [hw, if_true] at this
      rcases this with q | q
      · exact wp_in hd q
      · exact absurd q.2 hQ
    · rename_i hw
      simp only [hw] at this
      exact ⟨fun _ _ => trivial, this⟩
  unfold stepY at h hK
  split at h
  · rename_i f args at' hg ho
    simp only [hg, ho] at hK
    unfold yieldR at h hK
    split at h
    · rename_i l hf
      rw [hf] at hK
      simp only [r0] at h hK
      obtain ⟨hn, h⟩ := h
      have hv : R ρ (unw (sev τ) f) (a.eval f) := needs_spec rfl hn f (by simp [opNeeds, ho]) (R_sev ht f)
      rw [hf] at hv
      simp only [R] at hv
      obtain ⟨v1, v2, hv, r1, r2⟩ := hv
      have e1 : v1 = #[] := by apply Array.ext'; cases hh : v1.toList with
        | nil => rfl
        | cons x l => rw [hh] at r1; simp only [RL] at r1
      have e2 : v2 = #[] := by apply Array.ext'; cases hh : v2.toList with
        | nil => rfl
        | cons x l => rw [hh] at r2; simp only [RL] at r2
      subst e1; subst e2
      have hargs : RL ρ (args.toList.map (unw (sev τ))) (args.toList.map a.eval) :=
        RL.mapR _ _ _ (fun x hx => needs_spec rfl hn x (by simp [opNeeds, ho]; right; simpa using hx) (R_sev ht x))
      obtain ⟨_, hy⟩ := hΓ (.yield l) _ H h
      obtain ⟨fn, tmps, as, b, hrun, hround⟩ := hy g ρ w _ rfl hs hargs
      simp only [Region.wanted, hg, if_true]
      refine ⟨fun _ _ => trivial, ?_⟩
      rw [Oper.semAt_eq _ _ _ (noDef_spec hd)]
      have hex : (execOp a.eval o).run P w = .ok (.round l fn tmps as b) w := by
        unfold execOp
        simp only [ho, resolve, hv, Deferred.ofValue, Sem.run_bind, Sem.run_pure, Result.andThen_ok, invoke]
        rw [← hrun]
        congr 2
        apply Array.ext'
        simp
      rw [hex]
      refine ⟨fun e => by simp [FR, Fence.wide] at e, roundIn_FR (hround.mono fun e w' ⟨ρ', x, he, k1, k2, k3⟩ => ?_)⟩
      subst he
      exact hK ρ' _ w' x k1 k2 k3 rfl
    · rename_i hno
      refine plain h ?_
      split at hK
      · rename_i l hf; exact absurd hf (hno l)
      · exact hK
  · rename_i hno
    refine plain h ?_
    split at hK
    · rename_i f args at' hg ho; exact absurd ho (hno f args at' hg)
    · exact hK

theorem srunY_sound {P : Program} {g : G} {Γ : Con} {ops : List Oper} (hΓ : Con.Sound P g.E Γ) {Q : Exit → Act → World → Prop} (hQ : ¬ LetsOut Q) {rd : Option Nat} {n : Nat} : ∀ (r : List Oper) (acc : Prop) (ρ : Env) (τ : List SV) (H : List AB) (a : Act) (w : World),
    r.all noDef = true → Sat g ρ H w → RL ρ τ a.tmps.toList → (srunY P g.E Γ ops r acc τ H).pre →
    (∀ ρ' a' w', Env.le ρ ρ' → Sat g ρ' (srunY P g.E Γ ops r acc τ H).hp w' → RL ρ' (srunY P g.E Γ ops r acc τ H).tm a'.tmps.toList → a'.defers = a.defers → Q .normal a' w') →
    wpListIn (FR rd) n P ops.toArray Q r a w
  | [], acc, ρ, τ, H, a, w, _, hs, ht, _, hK => hK ρ a w (Env.le_refl _) hs ht rfl
  | o :: r, acc, ρ, τ, H, a, w, hd, hs, ht, h, hK => by
    simp only [List.all_cons, Bool.and_eq_true] at hd
    simp only [srunY] at h hK
    have hpre : (stepY P g.E Γ ops o τ H).pre := by
      generalize stepY P g.E Γ ops o τ H = s at h
      obtain ⟨p, v, H'⟩ := s
      exact (srunY_acc P g.E Γ ops r _ _ _ h).2
    exact wp_op_stepY (K := wpListIn (FR rd) n P ops.toArray Q r) (Q := Q) hs hΓ ht hd.1 hpre hQ (fun ρ' a' w' x h1 h2 h3 h4 => by
      subst h4
      generalize stepY P g.E Γ ops o τ H = s at h hK h2 h3
      obtain ⟨p, v, H'⟩ := s
      exact srunY_sound hΓ hQ r _ ρ' _ H' _ w' hd.2 h2 (RL_put (RL.mono h1 _ _ ht) _ _ _ h3) h (fun ρ'' a'' w'' k1 k2 k3 k4 => hK ρ'' a'' w'' (Env.le_trans h1 k1) k2 k3 (k4.trans (put_defers _ _ _))))

end Go.Proofs.Ytmnpnnegnlhemaa.Eng
