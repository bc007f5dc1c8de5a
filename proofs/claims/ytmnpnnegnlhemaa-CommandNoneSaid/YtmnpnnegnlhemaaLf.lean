/- Lifting: what the engine shows of a law gives what the given row asks. Plain lemmas; no statement of the seat. -/
import Derived.Test.YtmnpnnegnlhemaaEp
import Derived.ProofKit
import Derived.OpenShut
import Derived.OpenVars
import Derived.Carry
import Derived.SizedLaws
import Derived.Deep.Slices
namespace Go.Proofs.Ytmnpnnegnlhemaa.Eng
open Go Go.ChangeShapes Go.WideShapes Go.ChangeAt Go.RowKit

theorem cell_lt {W : World} {a : Addr} {v : Value} (h : W.cell? a = some v) : a.block < W.heap.size := by
  unfold World.cell? at h
  rcases Nat.lt_or_ge a.block W.heap.size with k | k
  · exact k
  · rw [Array.getElem?_eq_none k] at h
    simp at h

def R0 : Env := fun _ => none

/-- A law that the engine shows true leaves all that was there as it was. -/
theorem calls_of_ok {P : Program} {W : World} {f : FuncId} {args : Array Value} {sv : List SV} {H' : List AB} {b : Bool}
    (hr : RL R0 sv args.toList) (h : Ok P W.cell? f sv [] (.raw (.bool b)) H') : Calls P f args W fun e w' => e = .returned (.bool b) ∧ Below W.heap.size W w' := by
  have hs : Sat ⟨W, fun _ => False, W.cell?⟩ R0 [] W := by
    refine ⟨rfl, rfl, rfl, Nat.le_refl _, fun _ _ _ => rfl, ?_, ?_, ?_, ?_, fun _ _ => rfl, fun a v e => ⟨e, cell_lt e, ?_⟩⟩
    all_goals intro i
    all_goals simp
  have := h.2.2 ⟨W, fun _ => False, W.cell?⟩ R0 W args.toList rfl hs hr
  refine (show Calls P f args W _ from by simpa using this).mono ?_
  rintro e w' ⟨ρ', x, rfl, _, hs', hx⟩
  simp only [R] at hx
  subst hx
  exact ⟨rfl, hs'.os, hs'.tape, hs'.output, hs'.size, fun k hk => hs'.keep k hk (fun h => h)⟩

theorem trodAll_below {H : Type} {enc : TypeId × Value → H} {P : Program} (hl : laidOutB P = true) {W W' : World} (hb : Below W.heap.size W W') :
    ∀ {ts : List TypeId} {vs : List Value} {ds : List (DataW H)} {ps : List MemPlace}, (∀ t ∈ ts, P.readableRec t = true ∧ t < P.types.size) → DataW.TrodAll enc P W 0 (fun _ => true) true ts vs ds ps →
      (∀ x ∈ ps, x.block < W.heap.size) → DataW.TrodAll enc P W' 0 (fun b => decide (b < W.heap.size)) true ts vs ds ps
  | [], [], [], _, _, h, _ => h
  | t :: ts, v :: vs, d :: ds, _, ht, h, hp => by
    obtain ⟨p, q, h1, h2, rfl⟩ := h
    exact ⟨p, q, Below.trod hl (ht t (by simp)).1 (ht t (by simp)).2 h1 hb (fun x hx => hp x (by simp [hx])), trodAll_below hl hb (fun t' h' => ht t' (by simp [h'])) h2 (fun x hx => hp x (by simp [hx])), rfl⟩
  | [], [], _ :: _, _, _, h, _ => h.elim
  | [], _ :: _, _, _, _, h, _ => by cases h
  | _ :: _, [], _, _, _, h, _ => by cases h
  | _ :: _, _ :: _, [], _, _, h, _ => by cases h

/-! ### Plain data of integers -/
def contig (P : Program) (total : Nat) : List Field → List (List IntKind) → Nat → Bool
  | [], [], o => o == total
  | f :: l, ks :: kss, o => (f.offset == o && P.cellsOf f.type == ks.length) && contig P total l kss (o + ks.length)
  | _, _, _ => false

/-- The kinds of the cells of a type of integers, structs and arrays. -/
def flat (P : Program) : Nat → TypeId → Option (List IntKind)
  | 0, _ => none
  | n + 1, t => match P.underlying t with
    | some (.int k) => some [k]
    | some (.struct fs) => match fs.toList.mapM (fun f => flat P n f.type) with
      | some kss => match contig P (P.cellsOf t) fs.toList kss 0 with
        | true => some kss.flatten
        | false => none
      | none => none
    | some (.array m e) => match flat P n e with
      | some ks => match P.cellsOf e == ks.length && P.cellsOf t == m * ks.length with
        | true => some (List.replicate m ks).flatten
        | false => none
      | none => none
    | _ => none

/-- Cells of these kinds. -/
def Ints : List IntKind → List Value → Prop
  | [], [] => True
  | k :: ks, v :: vs => (∃ n, v = .int k n ∧ (Lit.int k n).wf = true) ∧ Ints ks vs
  | _, _ => False

theorem Ints.length : ∀ {ks : List IntKind} {vs : List Value}, Ints ks vs → vs.length = ks.length
  | [], [], _ => rfl
  | _ :: ks, _ :: vs, h => by simp [Ints.length h.2]
  | [], _ :: _, h => h.elim
  | _ :: _, [], h => h.elim

theorem Ints.append : ∀ {ks ks' : List IntKind} {vs vs' : List Value}, Ints ks vs → Ints ks' vs' → Ints (ks ++ ks') (vs ++ vs')
  | [], _, [], _, _, h => h
  | _ :: ks, _, _ :: vs, _, h, h' => ⟨h.1, Ints.append h.2 h'⟩
  | [], _, _ :: _, _, h, _ => h.elim
  | _ :: _, _, [], _, h, _ => h.elim

theorem mapM_cons_some {α β : Type} {q : α → Option β} {a : α} {l : List α} {r : List β} (h : (a :: l).mapM q = some r) : ∃ b r', q a = some b ∧ l.mapM q = some r' ∧ r = b :: r' := by
  rw [List.mapM_cons] at h
  cases h1 : q a with
  | none => simp [h1] at h
  | some b =>
    cases h2 : l.mapM q with
    | none => simp [h1, h2] at h
    | some r' => simp [h1, h2] at h; exact ⟨b, r', rfl, rfl, h.symm⟩

section
variable {H : Type} {enc : TypeId × Value → H} {P : Program} {w : World} {base : Nat} {spare : Nat → Bool} {held : Bool}

theorem fields_ints {cs : List Value} (q : Field → Option (List IntKind)) : ∀ (fs : List Field) (o : Nat) (kss : List (List IntKind)), contig P cs.length fs kss o = true → fs.mapM q = some kss →
    (∀ f ∈ fs, ∀ ks, q f = some ks → Ints ks ((cs.drop f.offset).take (P.cellsOf f.type))) → Ints kss.flatten (cs.drop o)
  | [], o, kss, hc, hm, _ => by
    simp at hm
    subst hm
    simp only [contig, beq_iff_eq] at hc
    subst hc
    simp [Ints]
  | f :: fs, o, kss, hc, hm, hq => by
    obtain ⟨ks, kr, h1, h2, rfl⟩ := mapM_cons_some hm
    simp only [contig, Bool.and_eq_true, beq_iff_eq] at hc
    obtain ⟨⟨rfl, he⟩, hc⟩ := hc
    have hi := hq f (by simp) ks h1
    rw [he] at hi
    have := hi.append (fields_ints q fs _ kr hc h2 (fun g hg => hq g (by simp [hg])))
    rw [List.flatten_cons]
    rwa [← List.drop_drop, List.take_append_drop] at this

theorem arr_ints (ks : List IntKind) : ∀ (m : Nat) (cs : List Value), cs.length = m * ks.length → (∀ i, i < m → Ints ks ((cs.drop (i * ks.length)).take ks.length)) → Ints (List.replicate m ks).flatten cs
  | 0, cs, hl, _ => by
    have : cs = [] := by simpa using hl
    subst this
    simp [Ints]
  | m + 1, cs, hl, h => by
    rw [List.replicate_succ, List.flatten_cons]
    have h0 := h 0 (by omega)
    simp only [Nat.zero_mul, List.drop_zero] at h0
    have := h0.append (arr_ints ks m (cs.drop ks.length) (by simp [hl, Nat.succ_mul]) (fun i hi => by
      have := h (i + 1) (by omega)
      rwa [Nat.succ_mul, Nat.add_comm, ← List.drop_drop] at this))
    rwa [List.take_append_drop] at this

theorem flat_ints : ∀ (n : Nat) {t : TypeId} {ks : List IntKind} {fuel : Nat} {cs : List Value} {x : DataW H × List MemPlace}, flat P n t = some ks → DataW.trod enc P w base spare held fuel t cs = some x → Ints ks cs
  | 0, _, _, _, _, _, h, _ => by simp [flat] at h
  | n + 1, t, ks, fuel, cs, x, h, hx => by
    unfold flat at h
    split at h
    · rename_i k hu
      cases h
      obtain ⟨m, rfl, _, hw⟩ := DataW.trod_int hu hx
      exact ⟨⟨m, rfl, hw⟩, trivial⟩
    · rename_i fs hu
      split at h
      · rename_i kss hm
        split at h
        · rename_i hc
          cases h
          obtain ⟨xs, m, rfl, rfl, hl, hlen, hf⟩ := DataW.trod_struct hu hx
          rw [← hl] at hc
          have := fields_ints (P := P) (cs := cs) (fun f => flat P n f.type) fs.toList 0 kss hc hm (fun f hf' ks hk => by
            obtain ⟨i, hi, rfl⟩ := List.mem_iff_getElem.1 hf'
            have e := hf i fs.toList[i] (by simp)
            have hi' : i < xs.length := by simp at hi; omega
            rw [List.getElem?_eq_getElem hi'] at e
            exact flat_ints n hk e)
          simpa using this
        · cases h
      · cases h
    · rename_i m e hu
      split at h
      · rename_i ks' hk
        split at h
        · rename_i hc
          cases h
          simp only [Bool.and_eq_true, beq_iff_eq] at hc
          obtain ⟨xs, m', rfl, rfl, hl, hlen, hf⟩ := DataW.trod_array hu hx
          refine arr_ints ks' m cs (by rw [hl, hc.2]) (fun i hi => ?_)
          have e := hf i hi
          rw [List.getElem?_eq_getElem (by omega), hc.1] at e
          exact flat_ints n hk e
        · cases h
      · cases h
    · cases h

/-- A slice of such data, in memory that is only read. -/
theorem open_rows {t e : TypeId} {n fuel : Nat} {ks : List IntKind} {cs : List Value} {x : DataW H × List MemPlace} (ht : P.underlying t = some (.slice e)) (hk : flat P n e = some ks) (hpos : 0 < P.cellsOf e) (h : DataW.trod enc P w base spare held fuel t cs = some x) :
    (∃ a c, cs = [.slice a 0 c]) ∨ ∃ b o len cap, cs = [.slice (some ⟨b, o, none⟩) len cap] ∧ 0 < len ∧ len ≤ maxLen ∧
      ∀ i, i < len → ∃ vs, Ints ks vs ∧ vs.length = P.cellsOf e ∧ ∀ j v, vs[j]? = some v → w.cell? ⟨b, o + i * P.cellsOf e + j, none⟩ = some v := by
  rcases Deep.open_slice ht h with ⟨rfl, _⟩ | ⟨a, len, cap, m, n', D, Pl, rfl, hb, hl, hm, hmm, _, hx⟩
  · exact .inl ⟨_, _, rfl⟩
  · rcases Nat.eq_zero_or_pos len with rfl | h0
    · exact .inl ⟨_, _, rfl⟩
    · right
      have hle : len ≤ m := by rw [hmm]; split <;> omega
      obtain ⟨b, o, sp⟩ := a
      obtain ⟨c0, q1, _⟩ := hx 0 (by omega)
      obtain ⟨_, q2, q3⟩ := World.cells?_some q1
      have hsp : sp = none := by
        have := q3 0 hpos
        rw [List.getElem?_eq_getElem (by omega)] at this
        simpa [Addr.add] using World.cell?_spot this
      subst hsp
      refine ⟨b, o, len, cap, rfl, h0, by omega, fun i hi => ?_⟩
      obtain ⟨vs, r1, r2⟩ := hx i (by omega)
      obtain ⟨_, r3, r4⟩ := World.cells?_some r1
      refine ⟨vs, flat_ints n hk r2, r3, fun j v hj => ?_⟩
      have hjl : j < vs.length := by
        rcases Nat.lt_or_ge j vs.length with k | k
        · exact k
        · rw [List.getElem?_eq_none k] at hj; cases hj
      have := r4 j (by omega)
      rw [hj, Deep.add_add] at this
      rw [← this]
      congr 1
      simp only [Addr.add]
      split
      · rename_i e0
        simp []
      · simp []
/-- A struct or an array of integers, as an argument. -/
theorem open_agg {t : TypeId} {n b0 : Nat} {ks : List IntKind} {v : Value} {d : DataW H} {p : List MemPlace} (hu : (match P.underlying t with | some (.struct _) | some (.array _ _) => true | _ => false) = true) (hk : flat P n t = some ks)
    (hval : Value.okWide P w .any b0 t v) (h : DataW.Trod enc P w base spare held t v d p) : ∃ cs : Array Value, v = .agg cs ∧ Ints ks cs.toList := by
  obtain ⟨m, hm⟩ := h
  have := flat_ints n hk hm
  unfold Value.okWide at hval
  split at hval
  · obtain ⟨cs, rfl, _⟩ := hval; exact ⟨cs, rfl, by simpa [Value.cells] using this⟩
  · obtain ⟨cs, rfl, _⟩ := hval; exact ⟨cs, rfl, by simpa [Value.cells] using this⟩
  · exfalso
    split at hu
    · simp_all
    · simp_all
    · cases hu
end

theorem Ints.cons {k : IntKind} {ks : List IntKind} {vs : List Value} (h : Ints (k :: ks) vs) : ∃ n r, vs = .int k n :: r ∧ (Lit.int k n).wf = true ∧ Ints ks r := by
  cases vs with
  | nil => exact h.elim
  | cons v vs => obtain ⟨⟨n, rfl, hw⟩, h⟩ := h; exact ⟨n, vs, rfl, hw, h⟩
theorem Ints.nil {vs : List Value} (h : Ints [] vs) : vs = [] := by
  cases vs with
  | nil => rfl
  | cons => exact h.elim
theorem RL_one {s : SV} {v : Value} (h : R R0 s v) : RL R0 [s] [v] := by simp only [RL]; exact ⟨h, trivial⟩
theorem RL_two {s : SV} {v : Value} {l : List SV} {r : List Value} (h : R R0 s v) (h' : RL R0 l r) : RL R0 (s :: l) (v :: r) := by simp only [RL]; exact ⟨h, h'⟩
theorem RL_nil0 : RL R0 [] [] := by simp only [RL]
theorem R_raw0 (v : Value) : R R0 (.raw v) v := by simp only [R]
theorem R_agg0 {cs : Array Value} {l : List Value} (h : cs.toList = l) : R R0 (.agg (l.map SV.raw)) (.agg cs) := by
  simp only [R]
  exact ⟨cs, rfl, by rw [h]; exact RL.raws l⟩

end Go.Proofs.Ytmnpnnegnlhemaa.Eng
