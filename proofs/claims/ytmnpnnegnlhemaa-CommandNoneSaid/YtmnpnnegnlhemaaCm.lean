/- The contracts of the command layer in one list, and the opening example. -/
import Derived.Test.YtmnpnnegnlhemaaCk
namespace Go.Proofs.Ytmnpnnegnlhemaa.Eng
open Go

theorem Cen.eta (c : Cen) : (⟨c.now, c.node, c.number, c.since, c.wait, c.wanted, c.n, c.gr⟩ : Cen) = c := rfl
theorem Nod.eta (x : Nod) : (⟨x.now, x.number, x.term, x.en, x.last, x.off, x.len, x.an, x.av⟩ : Nod) = x := rfl

def Cen.holds (c : Cen) : Bool := decide (c.node = 0)
def Cen.wantE (c : Cen) (k : Int) : Int := if (decide (0 ≤ k) && decide (k ≤ IntKind.i64.wrap (c.n - 1))) = true then 0 else 7
def Cen.ans (c : Cen) (k n m : Int) : SV := .tup [c.says k n m, ri (c.err k n m)]
def Nod.holds (x : Nod) : Bool := decide (x.now < x.en)
def Nod.askA (x : Nod) : SV := .tup [x.askW, ri (if x.full = true then 6 else 0)]
def Nod.retA (x : Nod) : SV := .tup [x.retW, ri (if decide (x.last = 0) = true then 9 else 0)]
def Nod.hearE (x : Nod) (k n m : Int) : Int := if x.mine k n m = true then 0 else 2

/-- Methods of centres and nodes. -/
def cM : Con := fun f args H => match f with
  | .func 12 => c12 args H
  | .func 11 => c12 args H
  | .func 13 => c13 args H
  | .func 14 => c14 args H
  | .func 15 => c15 args H
  | .func 17 => match args with
    | [.ptr i 0] => onNat 0 (fun x => (x.askA, encN2 x.ask)) Nod.room H i
    | _ => no
  | .func 19 => match args with
    | [.ptr i 0, .agg [.raw (.int .i64 k), .raw (.int .i64 n), .raw (.int .i64 m)]] => onNat 0 (fun x => (.raw (.int .i64 (x.hearE k n m)), encN (x.hear k n m))) Nod.room H i
    | _ => no
  | .func 21 => match args with
    | [.ptr i 0] => onNat 0 (fun x => (.raw (.int .i64 0), encN x.fall)) allN H i
    | _ => no
  | .func 23 => match args with
    | [.ptr i 0] => onNat 0 (fun x => (x.retA, encN x.ret)) allN H i
    | _ => no
  | .func 25 => match args with
    | [.ptr i 0] => onNat 0 (fun x => (.raw (.int .i64 0), encN x.tk)) allN H i
    | _ => no
  | .func 26 => match args with
    | [.ptr i 0] => onNat 0 (fun x => (.tup [.raw (.int .i64 x.now), .raw (.int .i64 x.en)], encN x)) allN H i
    | _ => no
  | .func 27 => match args with
    | [.ptr i 0] => onNat 0 (fun x => (.raw (.bool x.holds), encN x)) allN H i
    | _ => no
  | .func 29 => match args with
    | [.ptr i 0, .raw (.int .i64 k)] => onC (fun c => (.raw (.int .i64 (c.wantE k)), c.want k)) noneC H i
    | _ => no
  | .func 31 => match args with
    | [.ptr i 0, .agg [.raw (.int .i64 k), .raw (.int .i64 n), .raw (.int .i64 m)]] => onC (fun c => (c.ans k n m, c.hear k n m)) noneC H i
    | _ => no
  | .func 33 => match args with
    | [.ptr i 0] => onC (fun c => (.raw (.int .i64 0), c.brk)) noneC H i
    | _ => no
  | .func 35 => match args with
    | [.ptr i 0] => onC (fun c => (.raw (.int .i64 0), c.tick)) noneC H i
    | _ => no
  | .func 37 => match args with
    | [.ptr i 0] => onC (fun c => (.tup [.raw (.int .i64 c.node), .raw (.int .i64 c.since)], c)) noneC H i
    | _ => no
  | .func 39 => match args with
    | [.ptr i 0] => onC (fun c => (.raw (.bool c.holds), c)) noneC H i
    | _ => no
  | _ => no

theorem cM_sound (E : Addr → Option Value) : Con.Sound Try.prog E cM := by
  intro f args H h
  unfold cM at h ⊢
  split at h
  · exact c12_sound h
  · exact c11w_sound h
  · exact c13_sound h
  · exact c14_sound h
  · exact c15_sound h
  · split at h
    · exact onNat_sound (args := []) (fun x hx => ok17 E x hx) (fun _ => rfl) rfl h
    · exact h.elim
  · split at h
    · rename_i i k n m
      exact onNat_sound (args := [word k n m]) (fun x hx => ok19 E x k n m hx) (fun _ => rfl) rfl h
    · exact h.elim
  · split at h
    · exact onNat_sound (args := []) (fun x _ => ok21 E x) (fun _ => rfl) rfl h
    · exact h.elim
  · split at h
    · exact onNat_sound (args := []) (fun x _ => ok23 E x) (fun _ => rfl) rfl h
    · exact h.elim
  · split at h
    · exact onNat_sound (args := []) (fun x _ => ok25 E x) (fun _ => rfl) rfl h
    · exact h.elim
  · split at h
    · exact onNat_sound (args := []) (fun x _ => ok26 E x) (fun _ => rfl) rfl h
    · exact h.elim
  · split at h
    · exact onNat_sound (args := []) (fun x _ => ok27 E x) (fun _ => rfl) rfl h
    · exact h.elim
  · split at h
    · rename_i i k
      exact onC_sound (args := [ri k]) (fun c _ => ok29 E c k) (fun _ => rfl) rfl (fun _ _ => rfl) h
    · exact h.elim
  · split at h
    · rename_i i k n m
      exact onC_sound (args := [word k n m]) (fun c _ => ok31 E c k n m) (fun _ => rfl) rfl (fun _ _ => rfl) h
    · exact h.elim
  · split at h
    · exact onC_sound (args := []) (fun c _ => ok33 E c) (fun _ => rfl) rfl (fun _ _ => rfl) h
    · exact h.elim
  · split at h
    · exact onC_sound (args := []) (fun c _ => ok35 E c) (fun _ => rfl) rfl (fun _ _ => rfl) h
    · exact h.elim
  · split at h
    · exact onC_sound (args := []) (fun c _ => ok37 E c) (fun _ => rfl) rfl (fun _ _ => rfl) h
    · exact h.elim
  · split at h
    · exact onC_sound (args := []) (fun c _ => ok39 E c) (fun _ => rfl) rfl (fun _ _ => rfl) h
    · exact h.elim
  · exact h.elim

end Go.Proofs.Ytmnpnnegnlhemaa.Eng
