/- The engine's operations: append, maps, the rest. Plain lemmas; no statement of the seat. -/
import Derived.Test.YtmnpnnegnlhemaaEf
namespace Go.Proofs.Ytmnpnnegnlhemaa.Eng
open Go

/-- The list that is appended to: its length and its elements. -/
def tgt (H : List AB) (sz : Nat) (e : TypeId) : SV → Prop × Nat × (Nat → List SV) × Option Nat
  | .raw (.slice none 0 0) => (True, 0, fun _ => [], none)
  | .lst i sz' off len => match hget H i with
    | .lst n sz'' f ty => (sz' = sz ∧ sz'' = sz ∧ off + len = n ∧ ty = e, len, fun k => f (off + k), some i)
    | _ => (False, 0, fun _ => [], none)
  | _ => (False, 0, fun _ => [], none)

def app (m : Nat) (f h : Nat → List SV) : Nat → List SV := fun k => if k < m then f k else h (k - m)

def sApp (P : Program) (E : Addr → Option Value) (H : List AB) (t : TypeId) (x y : SV) : Res :=
  match telem P t with
  | some e => match tzero P e with
    | some z =>
      let sz := tsize P e
      ⟨((tgt H sz e x).1 ∧ (src E H sz y).1) ∧ (z.length = sz ∧ 0 < sz) ∧ ((tgt H sz e x).2.1 + (src E H sz y).2.1) * tbytes? P e ≤ 140737488355328 ∧ (tgt H sz e x).2.1 + (src E H sz y).2.1 ≤ 140737488355328,
        .lst H.length sz 0 ((tgt H sz e x).2.1 + (src E H sz y).2.1),
        (match (tgt H sz e x).2.2.2 with | some i => hset H i .dead | none => H) ++ [.lst ((tgt H sz e x).2.1 + (src E H sz y).2.1) sz (app (tgt H sz e x).2.1 (tgt H sz e x).2.2.1 (src E H sz y).2.2) e]⟩
    | none => no
  | none => no

theorem run_app_room {P : Program} (w : World) (t ty e : TypeId) (i : TypeInfo) (ht : P.underlying t = some (.slice e)) (hi : P.info? e = some i)
    (b o sLen sCap : Nat) (cur : Array Value) (u : TypeId) (hg : w.heap[b]? = some (.cells cur u (0, 0)))
    (a : Addr) (m c : Nat) (news : List Value) (hl : news.length = m * i.size) (hnews : ∀ j u, news[j]? = some u → w.cell? (a.add j) = some u) (h1 : ∀ u ∈ news, u.oneCell' = true)
    (hroom : sLen + m ≤ sCap) (hfit : o + sLen * i.size + news.length ≤ cur.size) :
    (Builtin.append_ #[t, t] ty #[.slice (some ⟨b, o, none⟩) sLen sCap, .slice (some a) m c]).run P w =
      .ok (.slice (some ⟨b, o, none⟩) (sLen + m) sCap) (w.setRow b (cur.toList.take (o + sLen * i.size) ++ news ++ cur.toList.drop (o + sLen * i.size + news.length)).toArray) := by
  have hf := run_firstCells_some (P := P) w i.size m a m c news hl hnews
  have hst := run_storeCells_at P b (o + sLen * i.size) u news 0 cur w hg (by simpa using hfit) h1
  simp only [Nat.add_zero] at hst
  simp [Builtin.append_, run_underlying ht, sizeOf, typeInfo, hi, Builtin.lenOf, hroom, hf, addr_add, hst]

theorem run_app_none {P : Program} (w : World) (t ty e : TypeId) (i : TypeInfo) (ht : P.underlying t = some (.slice e)) (hi : P.info? e = some i) (ao bo : Option Addr) (sLen sCap c : Nat) (hlc : sLen ≤ sCap) :
    (Builtin.append_ #[t, t] ty #[.slice ao sLen sCap, .slice bo 0 c]).run P w = .ok (.slice ao sLen sCap) w := by
  cases ao <;> cases bo <;> simp [Builtin.append_, run_underlying ht, sizeOf, typeInfo, hi, Builtin.lenOf, hlc, Builtin.firstCells, storeCells, loadCells, loadCellsFrom]

theorem grown_ge (w : World) (need old : Nat) (e : TypeId) : need ≤ grownCap w need old e := by
  exact Nat.le_add_right _ _

theorem sApp_sound {P : Program} {g : G} {ρ : Env} {H : List AB} {w : World} (hs : Sat g ρ H w) {t ty : TypeId} {x y : SV} {vx vy : Value} (hx : R ρ x vx) (hy : R ρ y vy) (h : (sApp P g.E H t x y).pre) :
    ∃ ρ' v w', (Builtin.append_ #[t, t] ty #[vx, vy]).run P w = .ok v w' ∧ Env.le ρ ρ' ∧ Sat g ρ' (sApp P g.E H t x y).heap w' ∧ R ρ' (sApp P g.E H t x y).val v := by
  unfold sApp at h ⊢
  split at h
  · rename_i e he
    split at h
    · rename_i z hz
      obtain ⟨i, zv, g1, g2, rfl⟩ := tzero_some hz
      have hsz : tsize P e = i.size := by simp [tsize, Program.cellsOf, g1]
      have hby : tbytes? P e = i.bytes := by simp [tbytes?, g1]
      obtain ⟨⟨htg, hsr⟩, ⟨hzl, hpos⟩, hb, hmax⟩ := h
      obtain ⟨ao, c, news, rfl, n1, n2, n3, n4, n5⟩ := src_spec hs hy hsr
      dsimp only
      generalize hS : src g.E H (tsize P e) y = S at *
      obtain ⟨sp, m, gs⟩ := S
      simp only at n1 n2 n3 n4 n5 htg hsr hb hmax ⊢
      rw [hby] at hb
      -- a new block of these elements
      have fresh : ∀ (H1 : List AB) (w1 : World), Sat g ρ H1 w1 → H1.length = H.length → ∀ (len : Nat) (fs : Nat → List SV) (olds : List Value) (cap : Nat), olds.length = len * tsize P e → len + m ≤ cap →
          (∀ k j s, k < len → j < tsize P e → (fs k)[j]? = some s → ∃ x, olds[k * tsize P e + j]? = some x ∧ R ρ s x) →
          ∃ ρ', Env.le ρ ρ' ∧ Sat g ρ' (H1 ++ [.lst (len + m) (tsize P e) (app len fs gs) e]) (w1.alloc (.cells (olds.toArray ++ news.toArray ++ Builtin.zeroCells zv.cells (cap - (len + m))) e)) ∧
            R ρ' (.lst H.length (tsize P e) 0 (len + m)) (.slice (some ⟨w1.heap.size, 0, none⟩) (len + m) cap) := by
        intro H1 w1 hs1 hl1 len fs olds cap ho hcap hold
        have hzc : zv.cells.size = tsize P e := by simpa using hzl
        obtain ⟨ρ', k1, k2, k3⟩ := sList_sat hs1 (len + m) cap (tsize P e) (app len fs gs) (olds.toArray ++ news.toArray ++ Builtin.zeroCells zv.cells (cap - (len + m))) e hcap (by
          simp only [Array.size_append, List.size_toArray, ho, n1, size_zeroCells, hzc]
          rw [← Nat.add_mul, ← Nat.add_mul]; congr 1; omega) (by
          intro k j s hk hj hf
          unfold app at hf
          by_cases q : k < len
          · rw [if_pos q] at hf
            obtain ⟨x, hx, hr⟩ := hold k j s q hj hf
            have hlt : k * tsize P e + j < olds.length := by
              rcases Nat.lt_or_ge (k * tsize P e + j) olds.length with z | z
              · exact z
              · rw [List.getElem?_eq_none z] at hx; cases hx
            refine ⟨x, ?_, hr⟩
            rw [Array.append_assoc, Array.getElem?_append_left (by simpa using hlt)]
            simpa using hx
          · rw [if_neg q] at hf
            obtain ⟨x, hx, hr⟩ := n5 (k - len) j s (by omega) hj hf
            have hlt : (k - len) * tsize P e + j < news.length := by
              rcases Nat.lt_or_ge ((k - len) * tsize P e + j) news.length with z | z
              · exact z
              · rw [List.getElem?_eq_none z] at hx; cases hx
            have hk' : k * tsize P e = len * tsize P e + (k - len) * tsize P e := by rw [← Nat.add_mul]; congr 1; omega
            refine ⟨x, ?_, hr⟩
            rw [Array.append_assoc, Array.getElem?_append_right (by simp; omega), Array.getElem?_append_left (by simp; omega)]
            simp only [List.size_toArray, ho, List.getElem?_toArray]
            rwa [show k * tsize P e + j - len * tsize P e = (k - len) * tsize P e + j by omega])
        rw [hl1] at k3
        exact ⟨ρ', k1, k2, k3⟩
      -- a target that is nil
      have nil : ∀ (H1 : List AB), Sat g ρ H1 w → H1.length = H.length → ∀ fs, ∃ ρ' v w', (Builtin.append_ #[t, t] ty #[.slice none 0 0, .slice ao m c]).run P w = .ok v w' ∧ Env.le ρ ρ' ∧
          Sat g ρ' (H1 ++ [.lst (0 + m) (tsize P e) (app 0 fs gs) e]) w' ∧ R ρ' (.lst H.length (tsize P e) 0 (0 + m)) v := by
        intro H1 hs1 hl1 fs
        rcases Nat.eq_zero_or_pos m with rfl | hm
        · exact ⟨ρ, _, w, run_app_none w t ty e i (telem_some he) g1 none ao 0 0 c (Nat.le_refl _), Env.le_refl _, hs1.pushNil _ _ _, by simp [R]⟩
        · have hmb : m * i.bytes ≤ ((tgt H (tsize P e) e x).2.1 + m) * i.bytes := Nat.mul_le_mul_right _ (Nat.le_add_left _ _)
          cases ao with
          | none => have := n3 rfl; omega
          | some a =>
            obtain ⟨ρ', k1, k2, k3⟩ := fresh H1 w.drew hs1.drew hl1 0 fs [] (grownCap w m 0 e) (by simp) (by have := grown_ge w m 0 e; omega) (by intro k j s hk; omega)
            refine ⟨ρ', _, _, run_append_nil (P := P) w t ty e i zv (telem_some he) g1 g2 a m c news (by rw [n1, hsz]) (n2 a rfl) hm (by omega) (by omega), k1, ?_, ?_⟩
            · simpa using k2
            · simpa using k3
      unfold tgt at htg hb hmax ⊢
      split at htg
      · simp only [R] at hx
        subst hx
        exact nil H hs rfl _
      · rename_i i0 sz' off len
        split at htg
        · rename_i n sz'' f ty' hg
          obtain ⟨e1, e2, e3, e4⟩ := htg
          subst e1; subst e2; subst e4
          simp only [hg] at hb hmax
          simp only [hset_eq]
          have hkill := hs.kill i0
          have hi0 := hget_some (H := H) (i := i0) (by rw [hg]; rfl)
          simp only [R] at hx
          rcases hx with ⟨rfl, rfl⟩ | ⟨b, cc, a, r1, r2, rfl, r4⟩
          · exact nil _ hkill (by simp) _
          · have hb0 := hs.blk i0 _ hi0
            rw [hg] at hb0 hi0
            -- the case of a list of capacity nothing, and of nothing to append
            by_cases hroom : len + m ≤ cc.1 - off
            · -- in place
              have haddr : ∃ bo : Nat × Nat, a = ⟨bo.1, bo.2, none⟩ ∨ off = cc.1 := by
                rcases Nat.lt_or_ge off cc.1 with q | q
                · exact ⟨(_, _), .inl (r4 q)⟩
                · exact ⟨(0, 0), .inr (by omega)⟩
              rcases Nat.eq_zero_or_pos m with rfl | hm
              · refine ⟨ρ.ext H.length (b, (cc.1 - off, cc.2 + off * tsize P ty')), _, w, run_app_none w t ty ty' i (telem_some he) g1 (some a) ao len (cc.1 - off) c (by omega), Env.le_ext (hs.out _ (Nat.le_refl _)), hs.move hi0 rfl r1 ?_, ?_⟩
                · rcases hb0 with ⟨e0, h0⟩ | ⟨b', c', arr, x1, x2, x3, x4, x5⟩
                  · rw [r1] at h0; cases h0
                  rw [r1] at x1; cases x1
                  refine .inr ⟨b, (cc.1 - off, cc.2 + off * tsize P ty'), arr, by simp [Env.ext], x2, by simp; omega, ?_, ?_⟩
                  · simp only
                    rw [x4, Nat.add_assoc, ← Nat.add_mul]; congr 2; omega
                  · intro k j s hk hj hf
                    unfold app at hf
                    rw [if_pos (by omega)] at hf
                    obtain ⟨x, hx', hr⟩ := x5 (off + k) j s (by omega) hj hf
                    refine ⟨x, ?_, R.mono (Env.le_ext (hs.out _ (Nat.le_refl _))) _ _ hr⟩
                    simp only
                    rwa [show cc.2 + off * tsize P ty' + k * tsize P ty' + j = cc.2 + (off + k) * tsize P ty' + j by rw [Nat.add_mul]; omega]
                · simp only [R]
                  refine .inr ⟨b, (cc.1 - off, cc.2 + off * tsize P ty'), a, by simp [Env.ext], by simp; omega, by simp, ?_⟩
                  intro hlt
                  simp only at hlt ⊢
                  rw [r4 (by omega)]
                  simp
              · have ha := r4 (by omega)
                subst ha
                cases ao with
                | none => have := n3 rfl; omega
                | some ad =>
                  rcases hb0 with ⟨e0, h0⟩ | ⟨b', c', arr, x1, x2, x3, x4, x5⟩
                  · rw [r1] at h0; cases h0
                  rw [r1] at x1; cases x1
                  have hfit : cc.2 + off * tsize P ty' + len * tsize P ty' + news.length ≤ arr.size := by
                    rw [n1, x4, Nat.add_assoc, Nat.add_assoc, ← Nat.add_mul, ← Nat.add_mul]
                    have := Nat.mul_le_mul_right (tsize P ty') (show off + (len + m) ≤ cc.1 by omega)
                    omega
                  have hrun := run_app_room (P := P) w t ty ty' i (telem_some he) g1 b (cc.2 + off * tsize P ty') len (cc.1 - off) arr ty' x2 ad m c news (by rw [n1, hsz]) (n2 ad rfl) n4 (by omega) (by rw [← hsz]; exact hfit)
                  -- the block, written; then moved
                  have hup := hs.upd (ab' := .lst (off + len + m) (tsize P ty') (fun k => if k < off + len then f k else gs (k - (off + len))) ty') (w' := w.setRow b (arr.toList.take (cc.2 + off * tsize P ty' + len * i.size) ++ news ++ arr.toList.drop (cc.2 + off * tsize P ty' + len * i.size + news.length)).toArray) hi0 rfl r1 rfl rfl rfl rfl (by simp) (fun k hne => setRow_other w b k _ hne) (by
                    rw [← hsz]
                    refine .inr ⟨b, cc, _, r1, setRow_heap w b arr _ ty' _ x2, by omega, ?_, ?_⟩
                    · simp only [List.size_toArray, List.length_append, List.length_take, List.length_drop, Array.length_toList]
                      omega
                    · intro k j s hk hj hf
                      rw [List.getElem?_toArray, splice_get _ _ _ (by simpa using hfit)]
                      by_cases q : k < off + len
                      · simp only [if_pos q] at hf
                        obtain ⟨x, hx', hr⟩ := x5 k j s (by omega) hj hf
                        have hm2 : k * tsize P ty' + tsize P ty' ≤ (off + len) * tsize P ty' := by
                          have := Nat.mul_le_mul_right (tsize P ty') (show k + 1 ≤ off + len by omega)
                          rwa [Nat.succ_mul] at this
                        rw [Nat.add_mul] at hm2
                        rw [if_pos (by omega)]
                        exact ⟨x, by simpa using hx', hr⟩
                      · simp only [if_neg q] at hf
                        obtain ⟨x, hx', hr⟩ := n5 (k - (off + len)) j s (by omega) hj hf
                        have hlt : (k - (off + len)) * tsize P ty' + j < news.length := by
                          rcases Nat.lt_or_ge ((k - (off + len)) * tsize P ty' + j) news.length with z | z
                          · exact z
                          · rw [List.getElem?_eq_none z] at hx'; cases hx'
                        have hk' : k * tsize P ty' = off * tsize P ty' + len * tsize P ty' + (k - (off + len)) * tsize P ty' := by
                          rw [← Nat.add_mul, ← Nat.add_mul]; congr 1; omega
                        rw [if_neg (by omega), if_pos (by omega)]
                        exact ⟨x, by rwa [show cc.2 + k * tsize P ty' + j - (cc.2 + off * tsize P ty' + len * tsize P ty') = (k - (off + len)) * tsize P ty' + j by omega], hr⟩)
                  have hi1 : (H.set i0 (.lst (off + len + m) (tsize P ty') (fun k => if k < off + len then f k else gs (k - (off + len))) ty'))[i0]? = some (.lst (off + len + m) (tsize P ty') (fun k => if k < off + len then f k else gs (k - (off + len))) ty') := by
                    have hlt : i0 < H.length := by
                      rcases Nat.lt_or_ge i0 H.length with z | z
                      · exact z
                      · rw [List.getElem?_eq_none z] at hi0; cases hi0
                    simp [hlt]
                  have hmv := hup.move (c' := (cc.1 - off, cc.2 + off * tsize P ty')) (ab' := .lst (len + m) (tsize P ty') (app len (fun k => f (off + k)) gs) ty') hi1 rfl r1 (by
                    have hbb := hup.blk i0 _ hi1
                    rcases hbb with ⟨e0, h0⟩ | ⟨b', c', arr', y1, y2, y3, y4, y5⟩
                    · rw [r1] at h0; cases h0
                    rw [r1] at y1; cases y1
                    refine .inr ⟨b, (cc.1 - off, cc.2 + off * tsize P ty'), arr', by simp [Env.ext], y2, by simp; omega, ?_, ?_⟩
                    · simp only
                      rw [y4, Nat.add_assoc, ← Nat.add_mul]; congr 2; omega
                    · intro k j s hk hj hf
                      have hf' : ((fun k => if k < off + len then f k else gs (k - (off + len))) (off + k))[j]? = some s := by
                        unfold app at hf
                        by_cases q : k < len
                        · rw [if_pos q] at hf
                          simp only [if_pos (show off + k < off + len by omega)]
                          exact hf
                        · rw [if_neg q] at hf
                          simp only [if_neg (show ¬ off + k < off + len by omega)]
                          rwa [show off + k - (off + len) = k - len by omega]
                      obtain ⟨x, hx', hr⟩ := y5 (off + k) j s (by omega) hj hf'
                      refine ⟨x, ?_, R.mono (Env.le_ext (hup.out _ (Nat.le_refl _))) _ _ hr⟩
                      simp only
                      rwa [show cc.2 + off * tsize P ty' + k * tsize P ty' + j = cc.2 + (off + k) * tsize P ty' + j by rw [Nat.add_mul]; omega])
                  simp only [List.length_set, List.set_set] at hmv
                  refine ⟨_, _, _, hrun, Env.le_ext (hs.out _ (Nat.le_refl _)), hmv, ?_⟩
                  simp only [R]
                  exact .inr ⟨b, (cc.1 - off, cc.2 + off * tsize P ty'), ⟨b, cc.2 + off * tsize P ty', none⟩, by simp [Env.ext], by simp; omega, by simp, by simp⟩
            · -- a new block
              have hm : 0 < m := by omega
              cases ao with
              | none => have := n3 rfl; omega
              | some ad =>
                have hold : ∃ olds : List Value, olds.length = len * tsize P ty' ∧ (∀ j v, olds[j]? = some v → w.cell? (a.add j) = some v) ∧
                    ∀ k j s, k < len → j < tsize P ty' → (f (off + k))[j]? = some s → ∃ x, olds[k * tsize P ty' + j]? = some x ∧ R ρ s x := by
                  rcases Nat.eq_zero_or_pos len with rfl | hlen
                  · exact ⟨[], by simp, by simp, fun k j s hk => by omega⟩
                  · have ha := r4 (by omega)
                    subst ha
                    rcases hb0 with ⟨e0, h0⟩ | ⟨b', c', arr, x1, x2, x3, x4, x5⟩
                    · omega
                    rw [r1] at x1; cases x1
                    have hlen2 : cc.2 + off * tsize P ty' + len * tsize P ty' ≤ arr.size := by
                      rw [x4, Nat.add_assoc, ← Nat.add_mul]
                      have := Nat.mul_le_mul_right (tsize P ty') (show off + len ≤ cc.1 by omega)
                      omega
                    refine ⟨(arr.toList.drop (cc.2 + off * tsize P ty')).take (len * tsize P ty'), by simp; omega, ?_, ?_⟩
                    · intro j v hv
                      rw [List.getElem?_take] at hv
                      split at hv
                      · rw [addr_add, cell_of w b _ arr _ _ x2]
                        simpa using hv
                      · cases hv
                    · intro k j s hk hj hf
                      obtain ⟨x, hx', hr⟩ := x5 (off + k) j s (by omega) hj hf
                      refine ⟨x, ?_, hr⟩
                      have hkl : k * tsize P ty' + tsize P ty' ≤ len * tsize P ty' := by
                        have := Nat.mul_le_mul_right (tsize P ty') (show k + 1 ≤ len by omega)
                        rwa [Nat.succ_mul] at this
                      rw [List.getElem?_take, if_pos (by omega), List.getElem?_drop]
                      rw [Array.getElem?_toList]
                      rwa [show cc.2 + off * tsize P ty' + (k * tsize P ty' + j) = cc.2 + (off + k) * tsize P ty' + j by rw [Nat.add_mul]; omega]
                obtain ⟨olds, o1, o2, o3⟩ := hold
                obtain ⟨ρ', k1, k2, k3⟩ := fresh (H.set i0 .dead) w.drew hkill.drew (by simp) len (fun k => f (off + k)) olds (grownCap w (len + m) (cc.1 - off) ty') o1 (grown_ge _ _ _ _) o3
                refine ⟨ρ', _, _, run_append_grow (P := P) w t ty ty' i zv (telem_some he) g1 g2 a len (cc.1 - off) olds (by rw [o1, hsz]) o2 ad m c news (by rw [n1, hsz]) (n2 ad rfl) (by omega) (by omega) (growslice_fits (by omega) (by omega)), k1, k2, ?_⟩
                simpa using k3
        · exact htg.elim
      · exact htg.elim
    · exact h.elim
  · exact h.elim

end Go.Proofs.Ytmnpnnegnlhemaa.Eng
