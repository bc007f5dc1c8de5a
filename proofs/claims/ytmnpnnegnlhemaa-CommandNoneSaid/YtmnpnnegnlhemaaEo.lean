/- The engine's code: blocks, branches, loops, ranges over a function, a function as a whole. Plain lemmas; no statement of the seat. -/
import Derived.Test.YtmnpnnegnlhemaaEs
namespace Go.Proofs.Ytmnpnnegnlhemaa.Eng
open Go

def pl0 : Nat → List (List Nat × Nat) := fun _ => []

inductive Ex where
  | normal
  | exit (id : Nat)
  | ret

inductive Kt where
  | seq (c : Code)
  | blk (id : Nat)

inductive Cmd where
  | run (c : Code) (k : List Kt)
  | pop (e : Ex) (k : List Kt)

abbrev Fin := Ex → List SV → List AB → Prop
abbrev Plan := List (List Nat × Nat)

/-- From here on these slots and this heap are all that is known. -/
def Nw (N : Nat) (T : List SV) (H' : List AB) (t : List SV) (h : List AB) : Prop := N ≤ H'.length ∧ hwk H'.length H' h ∧ wk T t ∧ scs H'.length T = true

/-- The same, perhaps with the blocks at new places. -/
def NwO (N : Nat) (o : Option (List Nat)) (T : List SV) (H' : List AB) (t : List SV) (h : List AB) : Prop :=
  match o with
  | none => Nw N T H' t h
  | some σ => σ.take N = List.range N ∧ Nw N T H' (renJs σ t) (mvH h σ σ)

def LoopP (N : Nat) (e : Fin → Cmd → List SV → List AB → Prop) (q : Fin) (c : Code) (τ : List SV) (H : List AB) : Prop :=
  ∃ (α : Type) (T : α → List SV) (Hp : α → List AB) (I : α → Prop) (m : α → Nat) (s0 : α), I s0 ∧ (∃ o, NwO N o (T s0) (Hp s0) τ H) ∧
    ∀ s, I s → ∀ F' : Fin, (∀ o s' t h, I s' → m s' < m s → NwO N o (T s') (Hp s') t h → F' .normal t h) → (∀ x t h, x ≠ .normal → q x t h → F' x t h) → e F' (.run c []) (T s) (Hp s)

def selC (p q : List SV → List AB → Prop) : SV → List SV → List AB → Prop
  | .raw (.bool b), τ, H => match b with
    | true => p τ H
    | false => q τ H
  | _, _, _ => False

def regC (q : List SV → List AB → Prop) : St → Prop
  | ⟨p, τ, H⟩ => p ∧ q τ H

def exitC (p q : List SV → List AB → Prop) : Bool → List SV → List AB → Prop
  | true, τ, H => p τ H
  | false, τ, H => q τ H

/-- A loop's record in another state. -/
def rto (r : Loop) (s : LoopState) (p : Option Code) : Loop := { r with state := s, pending := p }
theorem rto_state (r : Loop) (s : LoopState) (p : Option Code) : (rto r s p).state = s := rfl
theorem rto_pending (r : Loop) (s : LoopState) (p : Option Code) : (rto r s p).pending = p := rfl
theorem rto_rto (r : Loop) (s s' : LoopState) (p p' : Option Code) : rto (rto r s p) s' p' = rto r s' p' := rfl

def jumpP (q : Fin) (τ : List SV) (H : List AB) : Option Code → Prop
  | none => q .normal τ H
  | some .ret => q .ret τ H
  | some (.exit id) => q (.exit id) τ H
  | _ => False

section
variable (P : Program) (E : Addr → Option Value) (Γ : Con) (pl : Nat → Plan) (N : Nat)

def rangeP (q : Fin) (g : Operand) (ps : Array Tmp) (as b : Code) (τ : List SV) (H : List AB) : SV → Prop
  | .fn (.func f) first cap => needs (sev τ) true [g] ∧ ∀ (l d fid : Nat) (r : Loop), r = ⟨.ready, none, fid, #[], ps, as, b, d⟩ →
      ∃ v H2 τ2 r2, Ok P E f (first ++ [.fn (.yield l) [] []] ++ cap) (H ++ [.lrec l τ r]) v H2 ∧ hget H2 H.length = .lrec l τ2 r2 ∧ r2.state ≠ .busy ∧ jumpP q τ (hset H2 H.length .dead) r2.pending
  | _ => False

def drawSt (plan : Plan) (ops : List Oper) (τ : List SV) (H : List AB) : St :=
  ⟨preL P E Γ ops H.length τ (H ++ holes ops) ops.length ∧ chkL P E Γ ops H.length τ (H ++ holes ops) plan,
    (pref P E Γ ops H.length τ (H ++ holes ops) ops.length).1, (pref P E Γ ops H.length τ (H ++ holes ops) ops.length).2⟩

def popF (e : Cmd → List SV → List AB → Prop) (k : List Kt) : Fin := fun x => e (.pop x k)

def litSt (plan : Plan) (ops : List Oper) (τ : List SV) (H : List AB) : St := match plan with
  | [] => srunA P E Γ ops ops True τ H
  | _ :: _ => srunY P E Γ ops ops True τ H

def eng : Nat → Fin → Cmd → List SV → List AB → Prop
  | 0, _, _, _, _ => False
  | n + 1, F, .run c k, τ, H => match c with
    | .skip => eng n F (.pop .normal k) τ H
    | .seq a b => eng n F (.run a (.seq b :: k)) τ H
    | .block id c => eng n F (.run c (.blk id :: k)) τ H
    | .exit id => eng n F (.pop (.exit id) k) τ H
    | .ret => F .ret τ H
    | .cond c a b => needs (sev τ) true [c] ∧ selC (eng n F (.run a k)) (eng n F (.run b k)) (unw (sev τ) c) τ H
    | .region id ops d => regC (eng n F (.pop .normal k)) (match d with
      | false => litSt P E Γ (pl id) ops.toList τ H
      | true => drawSt P E Γ (pl id) ops.toList τ H)
    | .loop c => LoopP N (eng n) (popF (eng n F) k) c τ H
    | .rangeFunc g ps as b => rangeP P E (popF (eng n F) k) g ps as b τ H (unw (sev τ) g)
    | _ => False
  | n + 1, F, .pop e k, τ, H => match e, k with
    | .ret, _ => F .ret τ H
    | e, [] => F e τ H
    | .normal, .seq c :: k => eng n F (.run c k) τ H
    | .normal, .blk _ :: k => eng n F (.pop .normal k) τ H
    | .exit j, .seq _ :: k => eng n F (.pop (.exit j) k) τ H
    | .exit j, .blk id :: k => exitC (eng n F (.pop .normal k)) (eng n F (.pop (.exit j) k)) (j == id) τ H

/-- The drawn regions of a code, each with its plan; no deferred calls; a range over a function just where it may stand. -/
def plansOk (rf : Bool) : Code → Bool
  | .seq a b => plansOk rf a && plansOk rf b
  | .cond _ a b => plansOk rf a && plansOk rf b
  | .block _ c => plansOk rf c
  | .loop c => plansOk rf c
  | .region id ops d => ops.toList.all noDef && (match d with | true => statOk ops.toList && pl id == mkPlan ops.toList | false => true)
  | .rangeFunc _ _ _ _ => rf
  | _ => true
end

def exOf : Ex → Exit
  | .normal => .normal
  | .exit id => .exit id
  | .ret => .ret

def QK (P : Program) (rd : Option Nat) (Q : Exit → Act → World → Prop) : List Kt → Exit → Act → World → Prop
  | [] => Q
  | .seq c :: k => Exit.then (c.wpIn (FR rd) 0 P (QK P rd Q k)) (QK P rd Q k)
  | .blk id :: k => Exit.inBlock id (QK P rd Q k)

def kOk (rf : Bool) (pl : Nat → Plan) : List Kt → Bool
  | [] => true
  | .seq c :: k => plansOk pl rf c && kOk rf pl k
  | .blk _ :: k => kOk rf pl k

theorem QK_ret {P : Program} {rd : Option Nat} {Q : Exit → Act → World → Prop} {a : Act} {w : World} (h : Q .ret a w) : ∀ k, QK P rd Q k .ret a w
  | [] => h
  | .seq _ :: k => QK_ret h k
  | .blk _ :: k => QK_ret h k

theorem wpIn_loop_ex {P : Program} {F : Fence} {n : Nat} {β : Type} {c : Code} {Q : Exit → Act → World → Prop} (I : β → Act → World → Prop) (m : β → Nat)
    (round : ∀ s a w, I s a w → c.wpIn F n P (Exit.then (fun a' w' => ∃ s', I s' a' w' ∧ m s' < m s) Q) a w) {s0 : β} {a : Act} {w : World} (h0 : I s0 a w) : (Code.loop c).wpIn F n P Q a w := by
  intro b k cs hro hb hr
  have key : ∀ j s a w, m s = j → I s a w → ∃ e a' w', Q e a' w' ∧ ArrivesIn (Machine.fenced P F) P (lone (b.atR a (.code c :: .inLoop c :: k)) cs w) b k cs e a' w' := by
    intro j
    induction j using Nat.strongRecOn with
    | _ j ih =>
      intro s a w hn hI
      obtain ⟨e, a₁, w₁, hq, harr⟩ := round s a w hI b (.inLoop c :: k) cs hro hb hr
      cases e with
      | normal =>
        obtain ⟨s', hI₁, hlt⟩ := hq
        obtain ⟨e₂, a₂, w₂, hq₂, harr₂⟩ := ih (m s') (hn ▸ hlt) s' a₁ w₁ rfl hI₁
        exact ⟨e₂, a₂, w₂, hq₂, .of_steps (StepsIn.trans harr (.one (fenced_calm hb hr rfl) stepR_inLoop)) harr₂⟩
      | exit id => exact ⟨_, a₁, w₁, hq, .pass (x := .inLoop c) rfl (fun _ _ => .inl (by simp)) harr⟩
      | goto l => exact ⟨_, a₁, w₁, hq, .pass (x := .inLoop c) rfl (fun _ _ => .inl (by simp)) harr⟩
      | ret => exact ⟨_, a₁, w₁, hq, .pass (x := .inLoop c) rfl (fun _ _ => .inl (by simp)) harr⟩
      | panic ch => exact ⟨_, a₁, w₁, hq, .pass (x := .inLoop c) rfl (fun _ _ => .inl (by simp)) harr⟩
      | outgrown => exact ⟨_, a₁, w₁, hq, .pass (x := .inLoop c) rfl (fun _ _ => .inl (by simp)) harr⟩
  obtain ⟨e, a', w', hq, harr⟩ := key _ s0 a w rfl h0
  exact ⟨e, a', w', hq, .of_steps (.one (fenced_calm hb hr rfl) stepR_loop) harr⟩

/-- The marks of the ranges over functions that are behind us. -/
def Marks (g : G) (ρ : Env) (H : List AB) (w : World) : List Deferred → Prop
  | [] => True
  | x :: l => (∃ d, x = { target := .collected d, args := #[] } ∧ Spare g ρ H w d ∧ w.heap[d]? = some (.deferred (some [])) ∧ ∀ d', ({ target := .collected d', args := #[] } : Deferred) ∈ l → d' ≠ d) ∧ Marks g ρ H w l

theorem Marks.map {g : G} {ρ ρ' : Env} {H H' : List AB} {w w' : World} : ∀ {l : List Deferred}, (∀ d, ({ target := .collected d, args := #[] } : Deferred) ∈ l → Spare g ρ H w d → Spare g ρ' H' w' d ∧ w'.heap[d]? = w.heap[d]?) → Marks g ρ H w l → Marks g ρ' H' w' l
  | [], _, _ => trivial
  | x :: l, hf, h => by
    obtain ⟨⟨d, rfl, h1, h2, h3⟩, h4⟩ := h
    obtain ⟨k1, k2⟩ := hf d (by simp) h1
    exact ⟨⟨d, rfl, k1, k2.trans h2, h3⟩, h4.map fun d' hd' => hf d' (by simp [hd'])⟩

theorem Marks.spare {g : G} {ρ : Env} {H : List AB} {w : World} {d : Nat} : ∀ {l : List Deferred}, Marks g ρ H w l → ({ target := .collected d, args := #[] } : Deferred) ∈ l → Spare g ρ H w d
  | [], _, h => by simp at h
  | x :: l, h, hm => by
    obtain ⟨⟨d', rfl, h1, h2, h3⟩, h4⟩ := h
    rcases List.mem_cons.1 hm with e | hm
    · cases e; exact h1
    · exact h4.spare hm

/-- What the model's frame and world have to do with the engine's. -/
structure Rel (g : G) (ρ0 : Env) (ρ : Env) (τ : List SV) (H : List AB) (a : Act) (w : World) : Prop where
  sat : Sat g ρ H w
  tm : RL ρ τ a.tmps.toList
  marks : Marks g ρ H w a.defers
  le : Env.le ρ0 ρ

theorem Rel.step {g : G} {ρ0 ρ ρ' : Env} {τ τ' : List SV} {H H' : List AB} {a a' : Act} {w w' : World} (h : Rel g ρ0 ρ τ H a w) (k1 : Env.le ρ ρ') (k2 : Sat (G.of g.E ρ H w) ρ' H' w') (k3 : RL ρ' τ' a'.tmps.toList) (k4 : a'.defers = a.defers) : Rel g ρ0 ρ' τ' H' a' w' :=
  ⟨h.sat.comp k2, k3, by rw [k4]; exact h.marks.map fun d _ hd => hd.comp k2, Env.le_trans h.le k1⟩

theorem Rel.narrow {g : G} {ρ0 ρ : Env} {N : Nat} {τ T : List SV} {H H' : List AB} {a : Act} {w : World} (h : Rel g ρ0 ρ τ H a w) (hN : ∀ i, N ≤ i → ρ0 i = none) (hn : Nw N T H' τ H) :
    Rel g ρ0 (ρ.cut H'.length) T H' a w := by
  obtain ⟨h1, h2, h3, h4⟩ := hn
  refine ⟨h.sat.narrow h2, RL.cut _ _ h4 (RL.wk h3 h.tm), h.marks.map fun d _ hd => ⟨hd.narrow h.sat h2, rfl⟩, fun i x e => ?_⟩
  have hi : i < N := by
    rcases Nat.lt_or_ge i N with q | q
    · exact q
    · rw [hN i q] at e; cases e
  rw [Env.cut_lt (by omega)]
  exact h.le i x e

theorem Rel.mv {g : G} {ρ0 ρ : Env} {N : Nat} {τ : List SV} {H : List AB} {a : Act} {w : World} (h : Rel g ρ0 ρ τ H a w) (hN : ∀ i, N ≤ i → ρ0 i = none) {σ : List Nat} (hσ : σ.take N = List.range N) :
    Rel g ρ0 (ρ.mv σ) (renJs σ τ) (mvH H σ σ) a w :=
  ⟨h.sat.mv σ, RL_renJ ρ σ _ _ h.tm, h.marks.map fun d _ hd => ⟨hd.mv σ, rfl⟩, mv_le hN h.le hσ⟩

theorem Rel.narrowO {g : G} {ρ0 ρ : Env} {N : Nat} {τ T : List SV} {H H' : List AB} {a : Act} {w : World} (h : Rel g ρ0 ρ τ H a w) (hN : ∀ i, N ≤ i → ρ0 i = none) {o : Option (List Nat)} (hn : NwO N o T H' τ H) :
    ∃ ρ', Rel g ρ0 ρ' T H' a w := by
  cases o with
  | none => exact ⟨_, h.narrow hN hn⟩
  | some σ => exact ⟨_, (h.mv hN hn.1).narrow hN hn.2⟩

theorem holes_sat {g : G} {ρ : Env} {H : List AB} {w : World} (h : Sat g ρ H w) (ops : List Oper) : Sat g ρ (H ++ holes ops) w := by
  have hh : ∀ (l : List Oper), ∀ ab ∈ holes l, ab = .hole := by
    intro l
    induction l with
    | nil => simp [holes]
    | cons o l ih =>
      intro ab hm
      unfold holes at hm
      split at hm
      · rcases List.mem_cons.1 hm with rfl | hm
        · rfl
        · exact ih ab hm
      · exact ih ab hm
  have cases' : ∀ (i : Nat) (ab : AB), (H ++ holes ops)[i]? = some ab → H[i]? = some ab ∨ (ab = .hole ∧ H.length ≤ i) := by
    intro i ab hi
    by_cases q : i < H.length
    · rw [List.getElem?_append_left q] at hi; exact .inl hi
    · rw [List.getElem?_append_right (by omega)] at hi
      exact .inr ⟨hh ops ab (List.mem_of_getElem? hi), by omega⟩
  have live' : ∀ (i : Nat) (ab : AB), (H ++ holes ops)[i]? = some ab → ab.live = true → H[i]? = some ab := by
    intro i ab hi hv
    rcases cases' i ab hi with q | ⟨rfl, _⟩
    · exact q
    · cases hv
  refine ⟨h.os, h.tape, h.output, h.size, h.keep, ?_, ?_, ?_, ?_, ?_, ?_⟩
  · intro i ab hi
    rcases cases' i ab hi with q | ⟨rfl, q⟩
    · exact h.blk i ab q
    · exact h.out i q
  · intro i ab b c hi hv hr; exact h.own i ab b c (live' _ _ hi hv) hv hr
  · intro i ab b c hi hv hr; exact h.lt i ab b c (live' _ _ hi hv) hv hr
  · intro i j ai aj b c d hi hj hvi hvj hri hrj; exact h.inj i j ai aj b c d (live' _ _ hi hvi) (live' _ _ hj hvj) hvi hvj hri hrj
  · intro i hi; exact h.out i (by simp at hi; omega)
  · intro a v e; exact ⟨(h.ro a v e).1, (h.ro a v e).2.1, fun i ab b c hi hv hr => (h.ro a v e).2.2 i ab b c (live' _ _ hi hv) hv hr⟩

theorem drawn_soundIn {P : Program} {g : G} {Γ : Con} {ops : List Oper} {b : Nat} {τ0 : List SV} {H0 : List AB} {rd : Option Nat} {n : Nat} (hm : P.follows .mixedOrders = true) (hd : ops.all noDef = true) (hst : statOk ops = true) {plan : List (List Nat × Nat)} (hpl : plan = mkPlan ops) (hΓ : Con.Sound P g.E Γ) {ρ0 : Env} {a : Act} {w : World} {Q : Exit → Act → World → Prop} (hQo : ¬ LetsOut Q) {id : Nat}
    (hs : Sat g ρ0 H0 w) (ht : RL ρ0 τ0 a.tmps.toList)
    (hp : preL P g.E Γ ops b τ0 H0 ops.length) (hch : chkL P g.E Γ ops b τ0 H0 plan)
    (hQ : ∀ ρ a' w', Env.le ρ0 ρ → Sat g ρ (pref P g.E Γ ops b τ0 H0 ops.length).2 w' → RL ρ (pref P g.E Γ ops b τ0 H0 ops.length).1 a'.tmps.toList → a'.defers = a.defers → Q .normal a' w') :
    (Code.region id ops.toArray true).wpIn (FR rd) n P Q a w := by
  refine wpIn_region_any hm (any_in hQo hd _ _ _ _ (inv_any rfl (stat_of hst) hpl hΓ hp hch hQ _ _ _ _ ?_ ?_))
  · have h0 : ∀ j, onL (Array.replicate ops.toArray.size false) j = false := by
      intro j; unfold onL
      by_cases h : j < ops.length
      · simp [Array.getD, h]
      · simp [Array.getD, h]
    refine ⟨by simp, fun i o _ hon => (by rw [h0] at hon; cases hon), ⟨ρ0, Env.le_refl _, ?_, fun t => ?_⟩, ?_, rfl⟩
    · have : (effD ops ops.length).filter (onL (Array.replicate ops.toArray.size false)) = [] := by
        rw [List.filter_eq_nil_iff]; intro j _; rw [h0]; simp
      rw [this]
      exact hs.same rfl rfl rfl rfl
    · have : look P g.E Γ ops b τ0 H0 (Array.replicate ops.toArray.size false) t ops.length = tg τ0 t := by
        rw [look_high P g.E Γ ops b τ0 H0 _ t 0 ops.length (by omega) (fun j _ _ _ => h0 j)]
        rfl
      rw [this]
      exact R_tg ht t
    · have := ht.length; simpa using this.symm
  · right
    refine ⟨_, ?_, rfl⟩
    have := List.length_filter_le (fun i => !(onL (Array.replicate ops.toArray.size false) i)) (List.range ops.length)
    simpa using this

def Good (g : G) (ρ0 : Env) (F : Fin) (Q : Exit → Act → World → Prop) : Prop := ∀ e τ H ρ a w, Rel g ρ0 ρ τ H a w → F e τ H → Q (exOf e) a w

/-- Entering a range over a function, and coming back. -/
theorem range_sound {P : Program} {g : G} {q : Fin} {ρ0 ρ : Env} {op : Operand} {ps : Array Tmp} {as b : Code} {τ : List SV} {H : List AB} {a : Act} {w : World} {Q : Exit → Act → World → Prop} (hr : Rel g ρ0 ρ τ H a w)
    (h : rangeP P g.E q op ps as b τ H (unw (sev τ) op)) (hq : ∀ x ρ' H' a' w', Rel g ρ0 ρ' τ H' a' w' → q x τ H' → Q (exOf x) a' w') : (Code.rangeFunc op ps as b).wpIn (FR none) 0 P Q a w := by
  unfold rangeP at h
  split at h
  · rename_i f first cap hfn
    obtain ⟨hn, h⟩ := h
    have hv : R ρ (unw (sev τ) op) (a.eval op) := needs_spec rfl hn op (by simp) (R_sev hr.tm op)
    rw [hfn] at hv
    simp only [R] at hv
    obtain ⟨v1, v2, hv, r1, r2⟩ := hv
    refine wpIn_rangeFunc fun fid _ => ?_
    let r : Loop := { state := .ready, pending := none, fn := fid, tmps := a.tmps, params := ps, assign := as, body := b, defers := w.heap.size }
    let w1 := w.alloc (.deferred (some []))
    let w2 := w1.alloc (.loop r)
    have hs1 := hr.sat.grow (.deferred (some []))
    have hd1 : w1.heap[w.heap.size]? = some (.deferred (some [])) := World.alloc_heap_new w _
    have hsz1 : w1.heap.size = w.heap.size + 1 := by simp [w1]
    have hρn : ρ H.length = none := hr.sat.out _ (Nat.le_refl _)
    let ρ1 := ρ.ext H.length (w1.heap.size, (0, 0))
    have hle1 : Env.le ρ ρ1 := Env.le_ext hρn
    have hat : ρ1 H.length = some (w1.heap.size, (0, 0)) := by simp [ρ1, Env.ext]
    let r0 : Loop := ⟨.ready, none, fid, #[], ps, as, b, w.heap.size⟩
    have hs2 : Sat g ρ1 (H ++ [.lrec w1.heap.size τ r0]) w2 :=
      hs1.1.new (c := (0, 0)) (.loop r) hρn (.inl ⟨rfl, rfl⟩) ⟨_, a.tmps, hat, World.alloc_heap_new w1 _, RL.mono hle1 _ _ hr.tm⟩
    have hd2 : Spare g ρ1 (H ++ [.lrec w1.heap.size τ r0]) w2 w.heap.size ∧ w2.heap[w.heap.size]? = some (.deferred (some [])) := by
      refine ⟨⟨hs1.2.size, by simp [w2, w1]; omega, ?_, hs1.2.ro⟩, by rw [show w2.heap[w.heap.size]? = w1.heap[w.heap.size]? from RowKit.Below.heap_alloc w1 _ _ (by omega)]; exact hd1⟩
      intro i ab b' c hi hlv hri
      rcases List.get_cases_push hi with ⟨rfl, rfl⟩ | ⟨hi', hj⟩
      · rw [hat] at hri; cases hri; omega
      · have : ρ1 i = ρ i := by simp [ρ1, Env.ext, Nat.ne_of_lt hi']
        rw [this] at hri
        exact hs1.2.free i ab b' c hj hlv hri
    have hm2 : Marks g ρ1 (H ++ [.lrec w1.heap.size τ r0]) w2 a.defers := by
      refine hr.marks.map fun d hdm hd => ?_
      have hlt := hd.lt
      refine ⟨⟨hd.size, by simp [w2, w1]; omega, ?_, hd.ro⟩, ?_⟩
      · intro i ab b' c hi hlv hri
        rcases List.get_cases_push hi with ⟨rfl, rfl⟩ | ⟨hi', hj⟩
        · rw [hat] at hri; cases hri; omega
        · have : ρ1 i = ρ i := by simp [ρ1, Env.ext, Nat.ne_of_lt hi']
          rw [this] at hri
          exact hd.free i ab b' c hj hlv hri
      · rw [show w2.heap[d]? = w1.heap[d]? from RowKit.Below.heap_alloc w1 _ _ (by omega)]
        exact RowKit.Below.heap_alloc w _ _ hlt
    obtain ⟨v, H2, τ2, r2', hok, hg2, hst, hj⟩ := h w1.heap.size w.heap.size fid r0 rfl
    obtain ⟨⟨fn, b1, b2, b3⟩, hlen, hcall⟩ := hok
    let yv : Value := .func (.yield w1.heap.size) #[] #[]
    have hargs : RL ρ1 (first ++ [.fn (.yield w1.heap.size) [] []] ++ cap) (v1.toList ++ [yv] ++ v2.toList) :=
      RL.append (RL.append (RL.mono hle1 _ _ r1) (by simp only [RL, R]; exact ⟨⟨#[], #[], rfl, trivial, trivial⟩, trivial⟩)) (RL.mono hle1 _ _ r2)
    have hc := hcall (G.of g.E ρ1 (H ++ [.lrec w1.heap.size τ r0]) w2) ρ1 w2 _ rfl hs2.self hargs
    have eargs : (v1.toList ++ [yv] ++ v2.toList).toArray = v1 ++ #[yv] ++ v2 := by apply Array.ext'; simp
    rw [eargs] at hc
    refine ⟨w1.heap.size, [{ target := .collected w.heap.size, args := #[] }], w2, { target := .fn (.func f) v2, args := v1 ++ #[yv] }, w2, f, v1 ++ #[yv] ++ v2, w2, ?_, ?_, fun _ _ => trivial, ?_, fun e => by simp [FR, Fence.wide] at e, ?_⟩
    · have := run_enterLoop_outer (P := P) (w := w) fid a.tmps ps as b
      rw [hsz1]
      exact this
    · simp only [resolve, hv, Deferred.ofValue]
      simp [yv, Act.eval]
    · show (callFunc f _).run P w2 = _
      unfold callFunc
      simp only [Sem.run_bind, run_program, Result.andThen_ok, b1, b2, b3, Bool.false_eq_true, if_false, Sem.run_pure]
    · refine callsIn_FR.2 (hc.mono ?_)
      rintro e w3 ⟨ρ', x, rfl, k1, k2, k3⟩
      have hs3 := hs2.comp k2
      obtain ⟨hd3, hd3'⟩ := hd2.1.comp k2
      have hm3 : Marks g ρ' H2 w3 a.defers := hm2.map fun d _ hd => hd.comp k2
      have hlt2 : H.length < H2.length := by simp at hlen; omega
      have hg2' : H2[H.length]? = some (.lrec w1.heap.size τ2 r2') := by
        rw [hget_eq, List.getElem?_eq_getElem hlt2] at hg2
        rw [List.getElem?_eq_getElem hlt2]
        simpa using hg2
      obtain ⟨c2, t2, q1, q2, q3⟩ := hs3.blk _ _ hg2'
      have hend := run_endLoop (P := P) q2 hst
      have hsl : g.w0.heap.size ≤ w1.heap.size := by have := hr.sat.size; omega
      obtain ⟨hs4, hspl⟩ := hs3.drop hg2' rfl q1 hsl
      let w4 := w3.putObj w1.heap.size (.loop { ({ r2' with tmps := t2 } : Loop) with state := .exhausted })
      have hput : ∀ k, k ≠ w1.heap.size → w4.heap[k]? = w3.heap[k]? := fun k hk => World.putObj_heap_other hk
      have hs5 : Sat g ρ' (H2.set H.length .dead) w4 := hs4.touch hspl rfl rfl rfl (by simp [w4]) hput
      have hdd : ∀ {d : Nat}, Spare g ρ' H2 w3 d → d ≠ w1.heap.size → Spare g ρ' (H2.set H.length .dead) w4 d ∧ w4.heap[d]? = w3.heap[d]? := by
        intro d hd hne
        refine ⟨⟨hd.size, by simp [w4]; exact hd.lt, ?_, hd.ro⟩, hput d hne⟩
        intro i ab b' c hi hlv hri
        by_cases e : i = H.length
        · subst e
          rw [List.getElem?_set] at hi
          simp at hi
          rw [← hi.2] at hlv
          cases hlv
        · rw [List.getElem?_set_ne (Ne.symm e)] at hi
          exact hd.free i ab b' c hi hlv hri
      have hne : ∀ {d : Nat}, Spare g ρ' H2 w3 d → d ≠ w1.heap.size := fun hd e => hd.free _ _ _ _ hg2' rfl q1 e.symm
      have hrel : Rel g ρ0 ρ' τ (H2.set H.length .dead) { a with defers := { target := .collected w.heap.size, args := #[] } :: a.defers } w4 := by
        refine ⟨hs5, RL.mono (Env.le_trans hle1 k1) _ _ hr.tm, ⟨⟨_, rfl, (hdd hd3 (hne hd3)).1, ?_, ?_⟩, hm3.map fun d hdm hd => hdd hd (hne hd)⟩, Env.le_trans hr.le (Env.le_trans hle1 k1)⟩
        · rw [(hdd hd3 (hne hd3)).2, hd3']; exact hd2.2
        · intro d' hm' e
          have := (hr.marks.spare hm').lt
          omega
      refine ⟨_, w4, hend, ?_⟩
      rw [hset_eq] at hj
      show (match r2'.pending with | none => _ | some c => _)
      cases hp : r2'.pending with
      | none => rw [hp] at hj; exact hq .normal ρ' _ _ _ hrel hj
      | some c =>
        rw [hp] at hj
        cases c with
        | ret => exact wpIn_ret (hq .ret ρ' _ _ _ hrel hj)
        | exit id => exact wpIn_exit (hq (.exit id) ρ' _ _ _ hrel hj)
        | _ => exact hj.elim
  · exact h.elim

theorem eng_sound {P : Program} {g : G} {Γ : Con} {pl : Nat → Plan} {N : Nat} {ρ0 : Env} {rd : Option Nat} {rf : Bool} (hrf : rf = true → rd = none) (hm : P.follows .mixedOrders = true) (hΓ : Con.Sound P g.E Γ) (hN : ∀ i, N ≤ i → ρ0 i = none) :
    ∀ (n : Nat) (F : Fin) (Q : Exit → Act → World → Prop), Good g ρ0 F Q → ∀ (τ : List SV) (H : List AB) (ρ : Env) (a : Act) (w : World), Rel g ρ0 ρ τ H a w →
      (∀ c k, plansOk pl rf c = true → kOk rf pl k = true → eng P g.E Γ pl N n F (.run c k) τ H → c.wpIn (FR rd) 0 P (QK P rd Q k) a w) ∧
      (∀ e k, kOk rf pl k = true → eng P g.E Γ pl N n F (.pop e k) τ H → QK P rd Q k (exOf e) a w)
  | 0, F, Q, _, τ, H, ρ, a, w, _ => ⟨fun c k _ _ h => h.elim, fun e k _ h => h.elim⟩
  | n + 1, F, Q, hF, τ, H, ρ, a, w, hr => by
    have ih := eng_sound (pl := pl) (rd := rd) hrf hm hΓ hN n
    constructor
    · intro c k hc hk h
      cases c with
      | skip => exact wpIn_skip ((ih F Q hF τ H ρ a w hr).2 .normal k hk h)
      | seq x y =>
        simp only [plansOk, Bool.and_eq_true] at hc
        exact wpIn_seq ((ih F Q hF τ H ρ a w hr).1 x (.seq y :: k) hc.1 (by simp only [kOk, Bool.and_eq_true]; exact ⟨hc.2, hk⟩) h)
      | block id c => exact wpIn_block ((ih F Q hF τ H ρ a w hr).1 c (.blk id :: k) hc hk h)
      | exit id => exact wpIn_exit ((ih F Q hF τ H ρ a w hr).2 (.exit id) k hk h)
      | ret => exact wpIn_ret (QK_ret (hF .ret τ H ρ a w hr h) k)
      | cond c x y =>
        simp only [plansOk, Bool.and_eq_true] at hc
        obtain ⟨h1, h2⟩ := h
        have hv := needs_spec rfl h1 c (by simp) (R_sev hr.tm c)
        unfold selC at h2
        split at h2
        · rename_i b e
          rw [e] at hv
          simp only [R] at hv
          refine wpIn_cond hv ?_
          cases b with
          | true => exact (ih F Q hF _ _ ρ a w hr).1 x k hc.1 hk h2
          | false => exact (ih F Q hF _ _ ρ a w hr).1 y k hc.2 hk h2
        · exact h2.elim
      | region id ops d =>
        obtain ⟨ops⟩ := ops
        simp only [plansOk, Bool.and_eq_true] at hc
        let Q' : Exit → Act → World → Prop := fun e a w => e = .normal ∧ QK P rd Q k .normal a w
        have hQ' : ¬ LetsOut Q' := by rintro ⟨a, w, h, _⟩; cases h
        have up : ∀ {c : Code}, c.wpIn (FR rd) 0 P Q' a w → c.wpIn (FR rd) 0 P (QK P rd Q k) a w := fun hc => wpIn_mono hc (fun e a w ⟨he, hq⟩ => he ▸ hq)
        cases d with
        | false =>
          have h' : regC (eng P g.E Γ pl N n F (.pop .normal k)) (litSt P g.E Γ (pl id) ops τ H) := h
          refine up (wpIn_region_lit ?_)
          unfold litSt at h'
          split at h'
          · generalize hst : srunA P g.E Γ ops ops True τ H = st at h'
            obtain ⟨p, τ', H'⟩ := st
            obtain ⟨h1, h2⟩ := h'
            refine list_in hQ' _ _ _ hc.1 (srunA_sound (g := G.of g.E ρ H w) hΓ ops True ρ τ H a w hr.sat.self hr.tm (by show (srunA P g.E Γ ops ops True τ H).pre; rw [hst]; exact h1) (fun ρ' a' w' k1 k2 k3 k4 => ?_))
            change Sat _ ρ' (srunA P g.E Γ ops ops True τ H).hp w' at k2
            change RL ρ' (srunA P g.E Γ ops ops True τ H).tm _ at k3
            rw [hst] at k2 k3
            exact ⟨rfl, (ih F Q hF τ' H' ρ' a' w' (hr.step k1 k2 k3 k4)).2 .normal k hk h2⟩
          · generalize hst : srunY P g.E Γ ops ops True τ H = st at h'
            obtain ⟨p, τ', H'⟩ := st
            obtain ⟨h1, h2⟩ := h'
            refine srunY_sound (g := G.of g.E ρ H w) hΓ hQ' ops True ρ τ H a w hc.1 hr.sat.self hr.tm (by show (srunY P g.E Γ ops ops True τ H).pre; rw [hst]; exact h1) (fun ρ' a' w' k1 k2 k3 k4 => ?_)
            change Sat _ ρ' (srunY P g.E Γ ops ops True τ H).hp w' at k2
            change RL ρ' (srunY P g.E Γ ops ops True τ H).tm _ at k3
            rw [hst] at k2 k3
            exact ⟨rfl, (ih F Q hF τ' H' ρ' a' w' (hr.step k1 k2 k3 k4)).2 .normal k hk h2⟩
        | true =>
          simp only [Bool.and_eq_true, beq_iff_eq] at hc
          have h' : regC (eng P g.E Γ pl N n F (.pop .normal k)) (drawSt P g.E Γ (pl id) ops τ H) := h
          obtain ⟨h1, h2⟩ := h'
          exact up (drawn_soundIn (g := G.of g.E ρ H w) hm hc.1 hc.2.1 hc.2.2 hΓ hQ' (holes_sat hr.sat.self ops) hr.tm h1.1 h1.2 (fun ρ' a' w' k1 k2 k3 k4 =>
            ⟨rfl, (ih F Q hF _ _ ρ' a' w' (hr.step k1 k2 k3 k4)).2 .normal k hk h2⟩))
      | loop c =>
        obtain ⟨α, T, Hp, I, m, s0, i0, ⟨o, nw⟩, hb⟩ := h
        obtain ⟨ρs, hrs⟩ := hr.narrowO hN nw
        refine wpIn_loop_ex (fun s a w => I s ∧ ∃ ρ, Rel g ρ0 ρ (T s) (Hp s) a w) m (fun s a w ⟨hI, ρ', hr'⟩ => ?_) (s0 := s0) ⟨i0, ρs, hrs⟩
        refine (ih (fun x t h => (x = .normal → ∃ o s', I s' ∧ m s' < m s ∧ NwO N o (T s') (Hp s') t h) ∧ (x ≠ .normal → popF (eng P g.E Γ pl N n F) k x t h)) _ ?_ (T s) (Hp s) ρ' a w hr').1 c [] hc rfl
          (hb s hI _ (fun o s' t h i1 i2 i3 => ⟨fun _ => ⟨o, s', i1, i2, i3⟩, fun e => absurd rfl e⟩) (fun x t h hx hq => ⟨fun e => absurd e hx, fun _ => hq⟩))
        intro e t h ρ1 a1 w1 hr1 hf
        cases e with
        | normal =>
          obtain ⟨o, s', i1, i2, i3⟩ := hf.1 rfl
          exact ⟨s', ⟨i1, hr1.narrowO hN i3⟩, i2⟩
        | exit id => exact (ih F Q hF t h ρ1 a1 w1 hr1).2 (.exit id) k hk (hf.2 (by simp))
        | ret => exact (ih F Q hF t h ρ1 a1 w1 hr1).2 .ret k hk (hf.2 (by simp))
      | rangeFunc f ps as b =>
        have e := hrf hc
        subst e
        exact range_sound hr h (fun x ρ' H' a' w' hr' hq => (ih F Q hF τ H' ρ' a' w' hr').2 x k hk hq)
      | scope c => exact h.elim
      | label l => exact h.elim
      | goto l => exact h.elim
      | refuse s => exact h.elim
    · intro e k hk h
      cases e with
      | ret => exact QK_ret (hF .ret τ H ρ a w hr h) k
      | normal =>
        cases k with
        | nil => exact hF .normal τ H ρ a w hr h
        | cons x k =>
          cases x with
          | seq c =>
            simp only [kOk, Bool.and_eq_true] at hk
            exact (ih F Q hF τ H ρ a w hr).1 c k hk.1 hk.2 h
          | blk id => exact (ih F Q hF τ H ρ a w hr).2 .normal k hk h
      | exit j =>
        cases k with
        | nil => exact hF (.exit j) τ H ρ a w hr h
        | cons x k =>
          cases x with
          | seq c =>
            simp only [kOk, Bool.and_eq_true] at hk
            exact (ih F Q hF τ H ρ a w hr).2 (.exit j) k hk.2 h
          | blk id =>
            have h' : exitC (eng P g.E Γ pl N n F (.pop .normal k)) (eng P g.E Γ pl N n F (.pop (.exit j) k)) (j == id) τ H := h
            simp only [QK, exOf, Exit.inBlock]
            by_cases q : j = id
            · rw [if_pos q]
              have : (j == id) = true := by simpa using q
              rw [this] at h'
              exact (ih F Q hF τ H ρ a w hr).2 .normal k hk h'
            · rw [if_neg q]
              have : (j == id) = false := by simpa using q
              rw [this] at h'
              exact (ih F Q hF τ H ρ a w hr).2 (.exit j) k hk h'

/-! ### A function -/
def sRes1 (P : Program) (E : Addr → Option Value) (τ : List SV) (H : List AB) : ResultVar → Res
  | .tmp t => ⟨True, tg τ t, H⟩
  | .cell a t => sLoad P E H t (tg τ a)

def resK (k : Prop × List SV) : Res → Prop × List SV
  | ⟨p, v, _⟩ => (p ∧ k.1, v :: k.2)

def sResults (P : Program) (E : Addr → Option Value) (τ : List SV) (H : List AB) : List ResultVar → Prop × List SV
  | [] => (True, [])
  | r :: l => resK (sResults P E τ H l) (sRes1 P E τ H r)

def retV : List SV → SV
  | [x] => x
  | l => .tup l

def retP (N : Nat) (v : SV) (H' H : List AB) : Prop × List SV → Prop
  | (p, l) => p ∧ vwk v (retV l) ∧ N ≤ H'.length ∧ hwk H'.length H' H ∧ sc H'.length v = true

def resF (ts : Array Value) : ResultVar → Sem Value
  | .tmp t => pure (ts.getD t undef)
  | .cell a t => do loadVar t (← asAddr (ts.getD a undef))

theorem results_eq (fn : Func) (ts : Array Value) : results fn ts = (do let vs ← fn.results.mapM (resF ts); pure (if h : vs.size = 1 then vs[0] else .tuple vs)) := by
  have e : (fun r => match r with
    | .tmp t => pure (ts.getD t undef)
    | .cell a t => do loadVar t (← asAddr (ts.getD a undef)) : ResultVar → Sem Value) = resF ts := by
    funext r; cases r <;> rfl
  rw [← e]
  rfl

theorem sResults_sound {P : Program} {g : G} {ρ : Env} {H : List AB} {w : World} (hs : Sat g ρ H w) {τ : List SV} {ts : Array Value} (ht : RL ρ τ ts.toList) : ∀ (rs : List ResultVar), (sResults P g.E τ H rs).1 →
    ∃ vs : List Value, RL ρ (sResults P g.E τ H rs).2 vs ∧ (rs.mapM (resF ts)).run P w = .ok vs w
  | [], _ => ⟨[], by simp [sResults, RL], by simp⟩
  | r :: rs, h => by
    simp only [sResults] at h ⊢
    have h0 : (sRes1 P g.E τ H r).pre ∧ (sResults P g.E τ H rs).1 := by
      generalize sRes1 P g.E τ H r = x at h
      obtain ⟨p, v, _⟩ := x
      exact h
    obtain ⟨vs, h1, h2⟩ := sResults_sound hs ht rs h0.2
    cases r with
    | tmp t =>
      refine ⟨ts.getD t undef :: vs, ?_, ?_⟩
      · simp only [sRes1, resK, RL]; exact ⟨R_tg ht t, h1⟩
      · simp only [List.mapM_cons, resF, Sem.run_bind, Sem.run_pure, Result.andThen_ok, h2]
    | cell a t =>
      simp only [sRes1] at h0 ⊢
      obtain ⟨_, x, h3, h4⟩ := sLoad_sound hs (R_tg ht a) h0.1
      refine ⟨x :: vs, ?_, ?_⟩
      · generalize sLoad P g.E H t (tg τ a) = r at h4 ⊢
        obtain ⟨p, v, _⟩ := r
        simp only [resK, RL]; exact ⟨h4, h1⟩
      · have h5 := h3 w rfl
        have hv : ∃ b o : Nat, ts.getD a undef = .pointer (some ⟨b, o, none⟩) := by
          have h7 := h0.1
          unfold sLoad at h7
          split at h7
          · obtain ⟨b, o, _, hv, _⟩ := cellsAt_spec hs (R_tg ht a) _ h7.2; exact ⟨b, o, hv⟩
          · obtain ⟨b, o, _, hv, _⟩ := cellsAt_spec hs (R_tg ht a) _ h7.2; exact ⟨b, o, hv⟩
        obtain ⟨b, o, hv⟩ := hv
        rw [hv] at h5
        have h6 : (loadVar t ⟨b, o, none⟩).run P w = .ok x w := by
          simpa [Instr.loadAt, Instr.sureAddr] using h5
        simp only [List.mapM_cons, resF, Sem.run_bind, hv, asAddr, Sem.run_pure, Result.andThen_ok, h6, h2]

def undefs : Nat → List SV
  | 0 => []
  | n + 1 => .raw undef :: undefs n

theorem RL_undefs (ρ : Env) : ∀ n, RL ρ (undefs n) (List.replicate n undef)
  | 0 => by simp [undefs, RL]
  | n + 1 => by simp only [undefs, List.replicate_succ, RL, R]; exact ⟨trivial, RL_undefs ρ n⟩

def NotExit : Ex → Prop
  | .exit _ => False
  | _ => True

/-- What must hold where a function ends. -/
def FinP (P : Program) (E : Addr → Option Value) (N : Nat) (rs : List ResultVar) (v : SV) (H' : List AB) (e : Ex) (τ : List SV) (H : List AB) : Prop :=
  NotExit e ∧ retP N v H' H (sResults P E τ H rs)

def renR (σ : List Nat) : Prop × List SV → Prop × List SV
  | (p, l) => (p, renJs σ l)

/-- The same, with the blocks at new places. -/
def FinR (P : Program) (E : Addr → Option Value) (N : Nat) (rs : List ResultVar) (v : SV) (H' : List AB) (σ : List Nat) (e : Ex) (τ : List SV) (H : List AB) : Prop :=
  NotExit e ∧ σ.take N = List.range N ∧ retP N v H' (mvH H σ σ) (renR σ (sResults P E τ H rs))

theorem leaves_marks {P : Program} {g : G} {ρ : Env} {H : List AB} {fn : Func} {ts : Array Value} {R0 : Ending → World → Prop} : ∀ {ds : List Deferred} {w : World}, Sat g ρ H w → Marks g ρ H w ds →
    (∀ w', Sat g ρ H w' → ∃ v, (results fn ts).run P w' = .ok v w' ∧ R0 (.returned v) w') → LeavesInM (FR none) 0 P fn ts R0 ds .returning w
  | [], w, hs, _, h => h w hs
  | x :: l, w, hs, hm, h => by
    obtain ⟨⟨d, rfl, h1, h2, h3⟩, h4⟩ := hm
    refine ⟨by simp, .inl ⟨d, w.putObj d (.deferred none), rfl, run_takeDeferred h2, ?_⟩⟩
    have hput : ∀ k, k ≠ d → (w.putObj d (.deferred none)).heap[k]? = w.heap[k]? := fun k hk => World.putObj_heap_other hk
    have hs' := hs.touch h1 (w' := w.putObj d (.deferred none)) rfl rfl rfl (by simp) hput
    refine leaves_marks hs' (h4.map fun d' hd' hsp => ⟨⟨hsp.size, by simp; exact hsp.lt, hsp.free, hsp.ro⟩, hput d' (h3 d' hd')⟩) h

/-- **A function's contract, out of the engine's run of its body.** -/
theorem ok_of_engR {P : Program} {E : Addr → Option Value} {Γ : Con} {pl : Nat → Plan} {f : FuncId} {fn : Func} {c : Code} {args : List SV} {H : List AB} {v : SV} {H' : List AB} (hm : P.follows .mixedOrders = true) (hΓ : Con.Sound P E Γ)
    (hf : P.funcs[f]? = some fn) (hname : (fn.name == "runtime.NumGoroutine") = false) (hb : fn.body = some c) (hpl : plansOk pl true c = true) (hlen : H.length ≤ H'.length) (n : Nat)
    (h : ∀ F : Fin, (∀ e τ h, FinP P E H.length fn.results.toList v H' e τ h → F e τ h) → (∀ σ e τ h, FinR P E H.length fn.results.toList v H' σ e τ h → F e τ h) →
      eng P E Γ pl H.length n F (.run c []) (args ++ undefs (fn.ntmps - args.length)) H) :
    Ok P E f args H v H' := by
  refine ⟨⟨fn, hf, hname, by simp [hb]⟩, hlen, ?_⟩
  intro g ρ w vargs hE hs hr
  subst hE
  refine (callsIn_FR (r := none) (n := 0)).1 (callsIn_of_wp_marks hf hb trivial ?_)
  have hl := hr.length
  have hN : ∀ i, H.length ≤ i → ρ i = none := hs.out
  refine (eng_sound (rd := none) (rf := true) (fun _ => rfl) (N := H.length) (ρ0 := ρ) hm hΓ hN n (fun e τ h => FinP P g.E H.length fn.results.toList v H' e τ h ∨ ∃ σ, FinR P g.E H.length fn.results.toList v H' σ e τ h) _ ?_ _ H ρ { tmps := vargs.toArray ++ Array.replicate (fn.ntmps - vargs.toArray.size) undef, defers := [] } w ⟨hs, ?_, trivial, Env.le_refl _⟩).1 c [] hpl rfl
    (h _ (fun _ _ _ hh => .inl hh) (fun σ _ _ _ hh => .inr ⟨σ, hh⟩))
  · intro e τ H1 ρ1 a w1 hrel hfin
    have hexit : NotExit e := by
      rcases hfin with hfin | ⟨σ, hfin⟩
      · exact hfin.1
      · exact hfin.1
    have hres : LeavesInM (FR none) 0 P fn a.tmps (fun e w' => ∃ ρ' x, e = .returned x ∧ Env.le ρ ρ' ∧ Sat g ρ' H' w' ∧ R ρ' v x) a.defers .returning w1 := by
      refine leaves_marks hrel.sat hrel.marks fun w2 hs2 => ?_
      -- what is left once the marks are dealt with
      have key : ∀ (ρ2 : Env) (h2 : List AB) (l : List SV) (vs : List Value), Sat g ρ2 h2 w2 → Env.le ρ ρ2 → RL ρ2 l vs → vwk v (retV l) → H.length ≤ H'.length → hwk H'.length H' h2 → sc H'.length v = true →
          (fn.results.toList.mapM (resF a.tmps)).run P w2 = .ok vs w2 → ∃ v_1, (results fn a.tmps).run P w2 = .ok v_1 w2 ∧ ∃ ρ' x, Ending.returned v_1 = .returned x ∧ Env.le ρ ρ' ∧ Sat g ρ' H' w2 ∧ R ρ' v x := by
        intro ρ2 h2 l vs ks kle k1 f2 f3 f4 f5 k2
        have hnar : Rel g ρ (ρ2.cut H'.length) [] H' { tmps := #[], defers := [] } w2 := by
          have : Rel g ρ ρ2 [] h2 { tmps := #[], defers := [] } w2 := ⟨ks, by simp [RL], trivial, kle⟩
          exact this.narrow hN ⟨f3, f4, by simp [wk], by simp [scs]⟩
        have hval : R ρ2 (retV l) (if h : vs.toArray.size = 1 then vs.toArray[0] else .tuple vs.toArray) := by
          match l, vs, k1 with
          | [], [], _ => simp [retV, R, RL]
          | [x], [y], k1 => simp only [RL] at k1; simpa [retV] using k1.1
          | x :: x' :: l, y :: y' :: vs, k1 =>
            simp only [retV, R]
            exact ⟨_, by simp, k1⟩
          | [], _ :: _, k1 => simp only [RL] at k1
          | _ :: _, [], k1 => simp only [RL] at k1
          | [_], _ :: _ :: _, k1 => simp only [RL] at k1; exact k1.2.elim
          | _ :: _ :: _, [_], k1 => simp only [RL] at k1; exact k1.2.elim
        refine ⟨_, ?_, ρ2.cut H'.length, _, rfl, hnar.le, hnar.sat, R.cut _ _ f5 (R.vwk f2 hval)⟩
        rw [results_eq, ← Array.toArray_toList (xs := fn.results), List.mapM_toArray]
        simp only [Sem.run_bind, Sem.run_map, k2, Result.andThen_ok, Sem.run_pure]
      rcases hfin with hfin | ⟨σ, hfin⟩
      · unfold FinP at hfin
        obtain ⟨_, hfin⟩ := hfin
        generalize hsr : sResults P g.E τ H1 fn.results.toList = sr at hfin
        obtain ⟨p, l⟩ := sr
        obtain ⟨f1, f2, f3, f4, f5⟩ := hfin
        obtain ⟨vs, k1, k2⟩ := sResults_sound hs2 hrel.tm fn.results.toList (by rw [hsr]; exact f1)
        rw [hsr] at k1
        exact key ρ1 H1 l vs hs2 hrel.le k1 f2 f3 f4 f5 k2
      · unfold FinR at hfin
        obtain ⟨_, hσ, hfin⟩ := hfin
        generalize hsr : sResults P g.E τ H1 fn.results.toList = sr at hfin
        obtain ⟨p, l⟩ := sr
        obtain ⟨f1, f2, f3, f4, f5⟩ := hfin
        obtain ⟨vs, k1, k2⟩ := sResults_sound hs2 hrel.tm fn.results.toList (by rw [hsr]; exact f1)
        rw [hsr] at k1
        exact key (ρ1.mv σ) (mvH H1 σ σ) (renJs σ l) vs (hs2.mv σ) (mv_le hN hrel.le hσ) (RL_renJ ρ1 σ _ _ k1) f2 f3 f4 f5 k2
    cases e with
    | normal => exact hres
    | ret => exact hres
    | exit id => exact hexit.elim
  · simp only [Array.toList_append, List.size_toArray]
    rw [hl]
    refine RL.append hr ?_
    simpa using RL_undefs ρ (fn.ntmps - vargs.length)

theorem ok_of_eng {P : Program} {E : Addr → Option Value} {Γ : Con} {pl : Nat → Plan} {f : FuncId} {fn : Func} {c : Code} {args : List SV} {H : List AB} {v : SV} {H' : List AB} (hm : P.follows .mixedOrders = true) (hΓ : Con.Sound P E Γ)
    (hf : P.funcs[f]? = some fn) (hname : (fn.name == "runtime.NumGoroutine") = false) (hb : fn.body = some c) (hpl : plansOk pl true c = true) (hlen : H.length ≤ H'.length) (n : Nat)
    (h : ∀ F : Fin, (∀ e τ h, FinP P E H.length fn.results.toList v H' e τ h → F e τ h) → eng P E Γ pl H.length n F (.run c []) (args ++ undefs (fn.ntmps - args.length)) H) :
    Ok P E f args H v H' := ok_of_engR hm hΓ hf hname hb hpl hlen n (fun F h1 _ => h F h1)

end Go.Proofs.Ytmnpnnegnlhemaa.Eng
