/- The engine's rounds: what a call of yield does, out of the run of a range's body. Plain lemmas; no statement of the seat. -/
import Derived.Test.YtmnpnnegnlhemaaEp
namespace Go.Proofs.Ytmnpnnegnlhemaa.Eng
open Go

def putPs : List Tmp → List SV → List SV → List SV
  | p :: ps, s :: as, τ => putPs ps as (tset τ p s)
  | _, _, τ => τ

def begF (e : Cmd → List SV → List AB → Prop) (i l : Nat) (b : Code) : Fin
  | .normal, t, h => match hget h i with
    | .lrec l' τ' r' => (l' = l ∧ r'.state = .ready) ∧ e (.run b []) t (hset h i (.lrec l' τ' (rto r' .busy r'.pending)))
    | _ => False
  | _, _, _ => False

def jumpOf : Ex → Option Code
  | .normal => none
  | .ret => some .ret
  | .exit id => some (.exit id)

def endSt : Option Code → LoopState
  | none => .ready
  | some _ => .done

def rfin (N : Nat) (H' : List AB) (o : Option (List Nat)) (h : List AB) : Prop :=
  match o with
  | none => N ≤ H'.length ∧ hwk H'.length H' h
  | some σ => σ.take N = List.range N ∧ N ≤ H'.length ∧ hwk H'.length H' (mvH h σ σ)

def RFin (N i l : Nat) (v : SV) (H' : List AB) (o : Option (List Nat)) (e : Ex) (_t : List SV) (h : List AB) : Prop :=
  match hget h i with
  | .lrec l' τ' r' => (l' = l ∧ v = .raw (.bool (jumpOf e).isNone)) ∧ rfin N H' o (hset h i (.lrec l' τ' (rto r' (endSt (jumpOf e)) (jumpOf e))))
  | _ => False

theorem RL_putPs {ρ : Env} : ∀ {ps : List Tmp} {args : List SV} {vs : List Value} {τ : List SV} {ts : Array Value}, RL ρ args vs → RL ρ τ ts.toList →
    RL ρ (putPs ps args τ) ((ps.zip vs).foldl (fun tmps (x : Tmp × Value) => tmps.setIfInBounds x.1 x.2) ts).toList
  | [], _, _, _, _, _, h => by simpa [putPs] using h
  | p :: ps, [], [], _, _, _, h => by simpa [putPs] using h
  | p :: ps, s :: as, v :: vs, τ, ts, ha, h => by
    simp only [RL] at ha
    simp only [putPs, List.zip_cons_cons, List.foldl_cons]
    refine RL_putPs ha.2 ?_
    rw [tset_eq, Array.toList_setIfInBounds]
    exact h.set p s v ha.1
  | _ :: _, [], _ :: _, _, _, ha, _ => by simp only [RL] at ha
  | _ :: _, _ :: _, [], _, _, ha, _ => by simp only [RL] at ha

theorem live_of_hget {H : List AB} {i l : Nat} {τ : List SV} {r : Loop} (h : hget H i = .lrec l τ r) : H[i]? = some (.lrec l τ r) := by
  rw [hget_eq] at h
  cases hh : H[i]? with
  | none => rw [hh] at h; cases h
  | some a => rw [hh] at h; simp only [Option.getD_some] at h; rw [h]

/-- The record turns. -/
theorem Rel.put {g : G} {ρ0 ρ : Env} {τ : List SV} {H : List AB} {a : Act} {w : World} (h : Rel g ρ0 ρ τ H a w) {i l : Nat} {c : Nat × Nat} {τ' : List SV} {r r2 : Loop} {t : Array Value}
    (hi : H[i]? = some (.lrec l τ' r)) (hr : ρ i = some (l, c)) (ht : RL ρ τ' t.toList) (hl : l < w.heap.size) : Rel g ρ0 ρ τ (hset H i (.lrec l τ' r2)) a (w.putObj l (.loop { r2 with tmps := t })) := by
  have hput : ∀ k, k ≠ l → (w.putObj l (.loop { r2 with tmps := t })).heap[k]? = w.heap[k]? := fun k hk => World.putObj_heap_other hk
  rw [hset_eq]
  refine ⟨h.sat.upd hi rfl hr rfl rfl rfl rfl (by simp) hput ⟨c, t, hr, World.putObj_heap_same hl, ht⟩, h.tm, h.marks.map fun d _ hd => ?_, h.le⟩
  have hne : d ≠ l := fun e => hd.free i _ l c hi rfl hr e.symm
  refine ⟨⟨hd.size, by simp; exact hd.lt, ?_, hd.ro⟩, hput d hne⟩
  intro j ab b' c' hj hlv hrj
  by_cases e : j = i
  · subst e
    rw [hr] at hrj
    cases hrj
    exact hne.symm
  · rw [List.getElem?_set_ne (Ne.symm e)] at hj
    exact hd.free j ab b' c' hj hlv hrj

theorem yok_of_eng {P : Program} {E : Addr → Option Value} {Γ : Con} {pl : Nat → Plan} {l i : Nat} {τ : List SV} {r : Loop} {as b : Code} {ps : List Tmp} {args : List SV} {H : List AB} {v : SV} {H' : List AB} (hm : P.follows .mixedOrders = true) (hΓ : Con.Sound P E Γ)
    (hi : hget H i = .lrec l τ r) (has : r.assign = as) (hb : r.body = b) (hps : r.params.toList = ps) (hsz : args.length = ps.length) (hpa : plansOk pl false as = true) (hpb : plansOk pl false b = true) (hlen : H.length ≤ H'.length) (n : Nat)
    (h : ∀ F : Fin, (∀ o e t h, RFin H.length i l v H' o e t h → F e t h) → eng P E Γ pl H.length n (begF (eng P E Γ pl H.length n F) i l b) (.run as []) (putPs ps args τ) H) : YOk P E l args H v H' := by
  refine ⟨hlen, ?_⟩
  intro g ρ w vargs hE hs hr
  subst hE
  have hN : ∀ i, H.length ≤ i → ρ i = none := hs.out
  obtain ⟨c, t, h1, h2, h3⟩ := hs.blk i _ (live_of_hget hi)
  have hla := hr.length
  let T : Array Value := (r.params.zip vargs.toArray).foldl (fun tmps (x : Tmp × Value) => tmps.setIfInBounds x.1 x.2) t
  refine ⟨r.fn, T, r.assign, r.body, run_yield (r := { r with tmps := t }) h2 (by
    have : r.params.size = ps.length := by rw [← hps]; simp
    simp only [List.size_toArray]; omega), ?_⟩
  refine roundIn_of_wpIn trivial ?_
  subst has; subst hb
  let R0 : Ending → World → Prop := fun e w' => ∃ ρ' x, e = .returned x ∧ Env.le ρ ρ' ∧ Sat g ρ' H' w' ∧ R ρ' v x
  let F2 : Fin := fun e t h => ∃ o, RFin H.length i l v H' o e t h
  have good2 : Good g ρ F2 (roundPost P l R0) := by
    rintro e τ1 H1 ρ1 a1 w1 hrel ⟨o, hf⟩
    unfold RFin at hf
    split at hf
    · rename_i l' τ' r' hg
      obtain ⟨⟨rfl, hv⟩, hf⟩ := hf
      obtain ⟨c', t', q1, q2, q3⟩ := hrel.sat.blk i _ (live_of_hget hg)
      have hl := hrel.sat.lt i _ _ _ (live_of_hget hg) rfl q1
      have hp := hrel.put (r2 := rto r' (endSt (jumpOf e)) (jumpOf e)) (live_of_hget hg) q1 q3 hl
      have hend := run_endRound (P := P) (jumpOf e) q2
      have e1 : (endSt (jumpOf e)) = (if (jumpOf e).isNone = true then LoopState.ready else LoopState.done) := by cases e <;> rfl
      rw [← e1] at hend
      have fin : R0 (.returned (.bool (jumpOf e).isNone)) (w1.putObj l' (.loop { (rto r' (endSt (jumpOf e)) (jumpOf e)) with tmps := t' })) := by
        have hrel0 : Rel g ρ ρ1 [] (hset H1 i (.lrec l' τ' (rto r' (endSt (jumpOf e)) (jumpOf e)))) { tmps := #[], defers := [] } (w1.putObj l' (.loop { (rto r' (endSt (jumpOf e)) (jumpOf e)) with tmps := t' })) :=
          ⟨hp.sat, by simp [RL], trivial, hp.le⟩
        cases o with
        | none =>
          have hn := hrel0.narrow (T := []) hN ⟨hf.1, hf.2, by simp [wk], by simp [scs]⟩
          exact ⟨_, _, rfl, hn.le, hn.sat, by rw [hv]; simp [R]⟩
        | some σ =>
          have hn := (hrel0.mv hN hf.1).narrow (T := []) hN ⟨hf.2.1, hf.2.2, by simp [wk, renJs], by simp [scs]⟩
          exact ⟨_, _, rfl, hn.le, hn.sat, by rw [hv]; simp [R]⟩
      cases e with
      | normal => exact ⟨_, _, hend, fin⟩
      | ret => exact ⟨_, _, hend, fin⟩
      | exit id => exact ⟨_, _, hend, fin⟩
    · exact hf.elim
  refine (eng_sound (rd := some l) (rf := false) (fun e => by cases e) (N := H.length) (ρ0 := ρ) hm hΓ hN n (begF (eng P g.E Γ pl H.length n F2) i l r.body) _ ?_ (putPs ps args τ) H ρ { tmps := T, defers := [] } w ⟨hs, ?_, trivial, Env.le_refl _⟩).1 r.assign [] hpa rfl (h F2 (fun o e t h hh => ⟨o, hh⟩))
  · intro e τ1 H1 ρ1 a1 w1 hrel hf
    unfold begF at hf
    split at hf
    · split at hf
      · rename_i l' τ' r' hg
        obtain ⟨⟨rfl, hst⟩, hf⟩ := hf
        obtain ⟨c', t', q1, q2, q3⟩ := hrel.sat.blk i _ (live_of_hget hg)
        have hl := hrel.sat.lt i _ _ _ (live_of_hget hg) rfl q1
        have hp := hrel.put (r2 := rto r' .busy r'.pending) (live_of_hget hg) q1 q3 hl
        exact ⟨_, run_beginRound q2 hst, (eng_sound (rd := some l') (rf := false) (fun e => by cases e) (N := H.length) (ρ0 := ρ) hm hΓ hN n F2 _ good2 _ _ ρ1 _ _ hp).1 r.body [] hpb rfl hf⟩
      · exact hf.elim
    · exact hf.elim
  · show RL ρ (putPs ps args τ) T.toList
    rw [show T = (ps.zip vargs).foldl (fun tmps (x : Tmp × Value) => tmps.setIfInBounds x.1 x.2) t from by
      show (r.params.zip vargs.toArray).foldl _ t = _
      rw [← Array.foldl_toList, Array.toList_zip, hps]]
    exact RL_putPs hr h3

end Go.Proofs.Ytmnpnnegnlhemaa.Eng
