/-
  The rules of the walk as rewriting.
-/
import Derived.Test.YtmjcfcbjccepnaaE16
namespace Go.Proofs.Ytmjcfcbjccepnaa.Eng
open Go Go.RowKit
set_option linter.unusedSimpArgs false
set_option linter.unusedVariables false
set_option linter.unusedSectionVars false

variable {E : Env} {H H' H2 : AH}

def isValCall : Op → Bool
  | .call ⟨.value _, _, _⟩ => true
  | _ => false

@[congr] theorem EvOps_congr {L rest : List Oper} {st st' : St} {k : St → Prop} (h : st = st') : EvOps E L rest st k = EvOps E L rest st' k := by rw [h]
@[congr] theorem EvCall_congr {f f' : FuncId} {args args' : List Value} {H H' : AH} {k : Value → AH → Prop} (hf : f = f') (ha : args = args') (hH : H = H') : EvCall E f args H k = EvCall E f' args' H' k := by rw [hf, ha, hH]

theorem EvOps_nil {L : List Oper} {st : St} {k : St → Prop} : EvOps E L [] st k = k st := propext ⟨fun ⟨_, h⟩ => h, fun h => ⟨0, h⟩⟩

/-- The state behind an operation; behind a call. Under names, so that 'simp' does not walk on before the operation's answer is there. -/
def nxt (s : List Value) (dst : Option Tmp) (r : Value × AH) : St := ⟨sputO s dst r.1, r.2⟩
theorem nxt_pair {s : List Value} {dst : Option Tmp} {v : Value} : nxt s dst (v, H) = ⟨sputO s dst v, H⟩ := rfl
def nxc (s : List Value) (dst : Option Tmp) (v : Value) (H : AH) : St := ⟨sputO s dst v, H⟩
theorem nxc_eq {s : List Value} {dst : Option Tmp} {v : Value} : nxc s dst v H = ⟨sputO s dst v, H⟩ := rfl
def ECall (E : Env) (L rest : List Oper) (s : List Value) (dst : Option Tmp) (H : AH) (k : St → Prop) (g : FuncId × List Value) : Prop := EvCall E g.1 g.2 H fun v H' => EvOps E L rest (nxc s dst v H') k
theorem ECall_pair {L rest : List Oper} {s : List Value} {dst : Option Tmp} {k : St → Prop} {f : FuncId} {args : List Value} : ECall E L rest s dst H k (f, args) = EvCall E f args H fun v H' => EvOps E L rest (nxc s dst v H') k := propext Iff.rfl
def EGd (E : Env) (b : Bool) (L : List Oper) (o : Oper) (rest : List Oper) (s : List Value) (dst : Option Tmp) (H : AH) (k : St → Prop) : Prop := match b with
  | true => EvOps E L (o :: rest) ⟨s, H⟩ k
  | false => EvOps E L rest ⟨sputO s dst undef, H⟩ k
theorem EGd_true {L rest : List Oper} {o : Oper} {s : List Value} {dst : Option Tmp} {k : St → Prop} : EGd E true L o rest s dst H k = EvOps E L (o :: rest) ⟨s, H⟩ k := propext Iff.rfl
theorem EGd_false {L rest : List Oper} {o : Oper} {s : List Value} {dst : Option Tmp} {k : St → Prop} : EGd E false L o rest s dst H k = EvOps E L rest ⟨sputO s dst undef, H⟩ k := propext Iff.rfl

theorem EvOps_op {L rest : List Oper} {dst : Option Tmp} {op : Op} {ty : TypeId} {pos : String} {after : Array Edge} {s : List Value} {k : St → Prop} (hop : isValCall op = false) :
    EvOps E L (⟨dst, op, ty, pos, after, none⟩ :: rest) ⟨s, H⟩ k = bindK (evOp E op (sval s) H) fun r => EvOps E L rest (nxt s dst r) k := by
  apply propext
  constructor
  · rintro ⟨n, h⟩
    simp only [evOps, wantedA, if_true] at h
    unfold evOper at h
    split at h
    · rename_i f args tys heq
      simp only at heq
      rw [heq] at hop
      simp [isValCall] at hop
    · simp only at h
      cases hev : evOp E op (sval s) H with
      | none => rw [hev] at h; exact h.elim
      | some vh => rw [hev] at h; exact ⟨n, h⟩
  · intro h
    cases hev : evOp E op (sval s) H with
    | none => rw [hev] at h; exact h.elim
    | some vh =>
      rw [hev] at h
      obtain ⟨v, H'⟩ := vh
      exact evOps_op rfl hev h

theorem EvOps_call {L rest : List Oper} {dst : Option Tmp} {f : Operand} {args : Array Operand} {tys : Array TypeId} {ty : TypeId} {pos : String} {after : Array Edge} {s : List Value} {k : St → Prop} :
    EvOps E L (⟨dst, .call ⟨.value f, args, tys⟩, ty, pos, after, none⟩ :: rest) ⟨s, H⟩ k = bindK (callOf s (.call ⟨.value f, args, tys⟩)) fun g => ECall E L rest s dst H k g := by
  apply propext
  constructor
  · rintro ⟨n, h⟩
    simp only [evOps, wantedA, if_true, evOper] at h
    cases hg : callOf s (.call ⟨.value f, args, tys⟩) with
    | none => rw [hg] at h; exact h.elim
    | some gv =>
      rw [hg] at h
      exact ⟨n, evCall_le (Nat.le_refl _) _ _ _ _ _ (fun v H' h => ⟨n, h⟩) h⟩
  · intro h
    cases hg : callOf s (.call ⟨.value f, args, tys⟩) with
    | none => rw [hg] at h; exact h.elim
    | some gv =>
      rw [hg] at h
      obtain ⟨g, vs⟩ := gv
      exact evOps_call rfl rfl hg h

theorem EvOps_move {L rest : List Oper} {dst : Option Tmp} {x : Operand} {ty : TypeId} {pos : String} {after : Array Edge} {s : List Value} {k : St → Prop} : EvOps E L (⟨dst, (.move x), ty, pos, after, none⟩ :: rest) ⟨s, H⟩ k = bindK (evOp E (.move x) (sval s) H) fun r => EvOps E L rest (nxt s dst r) k := EvOps_op rfl
theorem EvOps_assign {L rest : List Oper} {dst : Option Tmp} {x : Operand} {ty : TypeId} {pos : String} {after : Array Edge} {s : List Value} {k : St → Prop} : EvOps E L (⟨dst, (.assign x), ty, pos, after, none⟩ :: rest) ⟨s, H⟩ k = bindK (evOp E (.assign x) (sval s) H) fun r => EvOps E L rest (nxt s dst r) k := EvOps_op rfl
theorem EvOps_pick {L rest : List Oper} {dst : Option Tmp} {c : Operand} {a : Operand} {b : Operand} {ty : TypeId} {pos : String} {after : Array Edge} {s : List Value} {k : St → Prop} : EvOps E L (⟨dst, (.pick c a b), ty, pos, after, none⟩ :: rest) ⟨s, H⟩ k = bindK (evOp E (.pick c a b) (sval s) H) fun r => EvOps E L rest (nxt s dst r) k := EvOps_op rfl
theorem EvOps_alloc {L rest : List Oper} {dst : Option Tmp} {e : TypeId} {ty : TypeId} {pos : String} {after : Array Edge} {s : List Value} {k : St → Prop} : EvOps E L (⟨dst, (.alloc e), ty, pos, after, none⟩ :: rest) ⟨s, H⟩ k = bindK (evOp E (.alloc e) (sval s) H) fun r => EvOps E L rest (nxt s dst r) k := EvOps_op rfl
theorem EvOps_box {L rest : List Oper} {dst : Option Tmp} {e : TypeId} {x : Operand} {ty : TypeId} {pos : String} {after : Array Edge} {s : List Value} {k : St → Prop} : EvOps E L (⟨dst, (.box e x), ty, pos, after, none⟩ :: rest) ⟨s, H⟩ k = bindK (evOp E (.box e x) (sval s) H) fun r => EvOps E L rest (nxt s dst r) k := EvOps_op rfl
theorem EvOps_build {L rest : List Oper} {dst : Option Tmp} {t : TypeId} {ps : Array (Nat × Operand)} {ty : TypeId} {pos : String} {after : Array Edge} {s : List Value} {k : St → Prop} : EvOps E L (⟨dst, (.build t ps), ty, pos, after, none⟩ :: rest) ⟨s, H⟩ k = bindK (evOp E (.build t ps) (sval s) H) fun r => EvOps E L rest (nxt s dst r) k := EvOps_op rfl
theorem EvOps_buildSlice {L rest : List Oper} {dst : Option Tmp} {t : TypeId} {n : Nat} {ps : Array (Nat × Operand)} {ty : TypeId} {pos : String} {after : Array Edge} {s : List Value} {k : St → Prop} : EvOps E L (⟨dst, (.buildSlice t n ps), ty, pos, after, none⟩ :: rest) ⟨s, H⟩ k = bindK (evOp E (.buildSlice t n ps) (sval s) H) fun r => EvOps E L rest (nxt s dst r) k := EvOps_op rfl
theorem EvOps_load {L rest : List Oper} {dst : Option Tmp} {t : TypeId} {a : Operand} {ty : TypeId} {pos : String} {after : Array Edge} {s : List Value} {k : St → Prop} : EvOps E L (⟨dst, (.load t a), ty, pos, after, none⟩ :: rest) ⟨s, H⟩ k = bindK (evOp E (.load t a) (sval s) H) fun r => EvOps E L rest (nxt s dst r) k := EvOps_op rfl
theorem EvOps_store {L rest : List Oper} {dst : Option Tmp} {t : TypeId} {a : Operand} {x : Operand} {ty : TypeId} {pos : String} {after : Array Edge} {s : List Value} {k : St → Prop} : EvOps E L (⟨dst, (.store t a x), ty, pos, after, none⟩ :: rest) ⟨s, H⟩ k = bindK (evOp E (.store t a x) (sval s) H) fun r => EvOps E L rest (nxt s dst r) k := EvOps_op rfl
theorem EvOps_nilCheck {L rest : List Oper} {dst : Option Tmp} {x : Operand} {ty : TypeId} {pos : String} {after : Array Edge} {s : List Value} {k : St → Prop} : EvOps E L (⟨dst, (.nilCheck x), ty, pos, after, none⟩ :: rest) ⟨s, H⟩ k = bindK (evOp E (.nilCheck x) (sval s) H) fun r => EvOps E L rest (nxt s dst r) k := EvOps_op rfl
theorem EvOps_binOp {L rest : List Oper} {dst : Option Tmp} {op : BinOp} {t : TypeId} {x : Operand} {y : Operand} {t2 : TypeId} {ty : TypeId} {pos : String} {after : Array Edge} {s : List Value} {k : St → Prop} : EvOps E L (⟨dst, (.binOp op t x y t2), ty, pos, after, none⟩ :: rest) ⟨s, H⟩ k = bindK (evOp E (.binOp op t x y t2) (sval s) H) fun r => EvOps E L rest (nxt s dst r) k := EvOps_op rfl
theorem EvOps_unOp {L rest : List Oper} {dst : Option Tmp} {op : UnOp} {t : TypeId} {x : Operand} {ty : TypeId} {pos : String} {after : Array Edge} {s : List Value} {k : St → Prop} : EvOps E L (⟨dst, (.unOp op t x), ty, pos, after, none⟩ :: rest) ⟨s, H⟩ k = bindK (evOp E (.unOp op t x) (sval s) H) fun r => EvOps E L rest (nxt s dst r) k := EvOps_op rfl
theorem EvOps_convert {L rest : List Oper} {dst : Option Tmp} {s0 : TypeId} {d : TypeId} {x : Operand} {ty : TypeId} {pos : String} {after : Array Edge} {s : List Value} {k : St → Prop} : EvOps E L (⟨dst, (.convert s0 d x), ty, pos, after, none⟩ :: rest) ⟨s, H⟩ k = bindK (evOp E (.convert s0 d x) (sval s) H) fun r => EvOps E L rest (nxt s dst r) k := EvOps_op rfl
theorem EvOps_makeInterface {L rest : List Oper} {dst : Option Tmp} {t : TypeId} {x : Operand} {ty : TypeId} {pos : String} {after : Array Edge} {s : List Value} {k : St → Prop} : EvOps E L (⟨dst, (.makeInterface t x), ty, pos, after, none⟩ :: rest) ⟨s, H⟩ k = bindK (evOp E (.makeInterface t x) (sval s) H) fun r => EvOps E L rest (nxt s dst r) k := EvOps_op rfl
theorem EvOps_makeFunc {L rest : List Oper} {dst : Option Tmp} {f : Fn} {a : Array Operand} {b : Array Operand} {ty : TypeId} {pos : String} {after : Array Edge} {s : List Value} {k : St → Prop} : EvOps E L (⟨dst, (.makeFunc f a b), ty, pos, after, none⟩ :: rest) ⟨s, H⟩ k = bindK (evOp E (.makeFunc f a b) (sval s) H) fun r => EvOps E L rest (nxt s dst r) k := EvOps_op rfl
theorem EvOps_makeMap {L rest : List Oper} {dst : Option Tmp} {t : TypeId} {r : Option Operand} {ty : TypeId} {pos : String} {after : Array Edge} {s : List Value} {k : St → Prop} : EvOps E L (⟨dst, (.makeMap t r), ty, pos, after, none⟩ :: rest) ⟨s, H⟩ k = bindK (evOp E (.makeMap t r) (sval s) H) fun r => EvOps E L rest (nxt s dst r) k := EvOps_op rfl
theorem EvOps_makeSlice {L rest : List Oper} {dst : Option Tmp} {t : TypeId} {l : Operand} {c : Operand} {ty : TypeId} {pos : String} {after : Array Edge} {s : List Value} {k : St → Prop} : EvOps E L (⟨dst, (.makeSlice t l c), ty, pos, after, none⟩ :: rest) ⟨s, H⟩ k = bindK (evOp E (.makeSlice t l c) (sval s) H) fun r => EvOps E L rest (nxt s dst r) k := EvOps_op rfl
theorem EvOps_slice {L rest : List Oper} {dst : Option Tmp} {t : TypeId} {x : Operand} {l : Option Operand} {h : Option Operand} {m : Option Operand} {ty : TypeId} {pos : String} {after : Array Edge} {s : List Value} {k : St → Prop} : EvOps E L (⟨dst, (.slice t x l h m), ty, pos, after, none⟩ :: rest) ⟨s, H⟩ k = bindK (evOp E (.slice t x l h m) (sval s) H) fun r => EvOps E L rest (nxt s dst r) k := EvOps_op rfl
theorem EvOps_fieldAddr {L rest : List Oper} {dst : Option Tmp} {t : TypeId} {x : Operand} {f : Nat} {ty : TypeId} {pos : String} {after : Array Edge} {s : List Value} {k : St → Prop} : EvOps E L (⟨dst, (.fieldAddr t x f), ty, pos, after, none⟩ :: rest) ⟨s, H⟩ k = bindK (evOp E (.fieldAddr t x f) (sval s) H) fun r => EvOps E L rest (nxt s dst r) k := EvOps_op rfl
theorem EvOps_field {L rest : List Oper} {dst : Option Tmp} {t : TypeId} {x : Operand} {f : Nat} {ty : TypeId} {pos : String} {after : Array Edge} {s : List Value} {k : St → Prop} : EvOps E L (⟨dst, (.field t x f), ty, pos, after, none⟩ :: rest) ⟨s, H⟩ k = bindK (evOp E (.field t x f) (sval s) H) fun r => EvOps E L rest (nxt s dst r) k := EvOps_op rfl
theorem EvOps_indexAddr {L rest : List Oper} {dst : Option Tmp} {t : TypeId} {x : Operand} {i : Operand} {ty : TypeId} {pos : String} {after : Array Edge} {s : List Value} {k : St → Prop} : EvOps E L (⟨dst, (.indexAddr t x i), ty, pos, after, none⟩ :: rest) ⟨s, H⟩ k = bindK (evOp E (.indexAddr t x i) (sval s) H) fun r => EvOps E L rest (nxt s dst r) k := EvOps_op rfl
theorem EvOps_index {L rest : List Oper} {dst : Option Tmp} {t : TypeId} {x : Operand} {i : Operand} {ty : TypeId} {pos : String} {after : Array Edge} {s : List Value} {k : St → Prop} : EvOps E L (⟨dst, (.index t x i), ty, pos, after, none⟩ :: rest) ⟨s, H⟩ k = bindK (evOp E (.index t x i) (sval s) H) fun r => EvOps E L rest (nxt s dst r) k := EvOps_op rfl
theorem EvOps_lookup {L rest : List Oper} {dst : Option Tmp} {t : TypeId} {x : Operand} {i : Operand} {ok : Bool} {ty : TypeId} {pos : String} {after : Array Edge} {s : List Value} {k : St → Prop} : EvOps E L (⟨dst, (.lookup t x i ok), ty, pos, after, none⟩ :: rest) ⟨s, H⟩ k = bindK (evOp E (.lookup t x i ok) (sval s) H) fun r => EvOps E L rest (nxt s dst r) k := EvOps_op rfl
theorem EvOps_mapUpdate {L rest : List Oper} {dst : Option Tmp} {t : TypeId} {m : Operand} {kk : Operand} {x : Operand} {ty : TypeId} {pos : String} {after : Array Edge} {s : List Value} {k : St → Prop} : EvOps E L (⟨dst, (.mapUpdate t m kk x), ty, pos, after, none⟩ :: rest) ⟨s, H⟩ k = bindK (evOp E (.mapUpdate t m kk x) (sval s) H) fun r => EvOps E L rest (nxt s dst r) k := EvOps_op rfl
theorem EvOps_insert {L rest : List Oper} {dst : Option Tmp} {t : TypeId} {m : Operand} {kk : Operand} {x : Operand} {ty : TypeId} {pos : String} {after : Array Edge} {s : List Value} {k : St → Prop} : EvOps E L (⟨dst, (.insert t m kk x), ty, pos, after, none⟩ :: rest) ⟨s, H⟩ k = bindK (evOp E (.insert t m kk x) (sval s) H) fun r => EvOps E L rest (nxt s dst r) k := EvOps_op rfl
theorem EvOps_typeAssert {L rest : List Oper} {dst : Option Tmp} {x : Operand} {t0 : TypeId} {t : TypeId} {ok : Bool} {ty : TypeId} {pos : String} {after : Array Edge} {s : List Value} {k : St → Prop} : EvOps E L (⟨dst, (.typeAssert x t0 t ok), ty, pos, after, none⟩ :: rest) ⟨s, H⟩ k = bindK (evOp E (.typeAssert x t0 t ok) (sval s) H) fun r => EvOps E L rest (nxt s dst r) k := EvOps_op rfl
theorem EvOps_extract {L rest : List Oper} {dst : Option Tmp} {x : Operand} {i : Nat} {ty : TypeId} {pos : String} {after : Array Edge} {s : List Value} {k : St → Prop} : EvOps E L (⟨dst, (.extract x i), ty, pos, after, none⟩ :: rest) ⟨s, H⟩ k = bindK (evOp E (.extract x i) (sval s) H) fun r => EvOps E L rest (nxt s dst r) k := EvOps_op rfl
theorem EvOps_builtin {L rest : List Oper} {dst : Option Tmp} {b : Builtin} {args : Array Operand} {tys : Array TypeId} {ty : TypeId} {pos : String} {after : Array Edge} {s : List Value} {k : St → Prop} : EvOps E L (⟨dst, .call ⟨.builtin b, args, tys⟩, ty, pos, after, none⟩ :: rest) ⟨s, H⟩ k = bindK (evOp E (.call ⟨.builtin b, args, tys⟩) (sval s) H) fun r => EvOps E L rest (nxt s dst r) k := EvOps_op rfl

/-- A guarded operation. -/
theorem EvOps_guard {L rest : List Oper} {dst : Option Tmp} {op : Op} {ty : TypeId} {pos : String} {after : Array Edge} {g : Nat × Bool} {s : List Value} {k : St → Prop} :
    EvOps E L (⟨dst, op, ty, pos, after, some g⟩ :: rest) ⟨s, H⟩ k = EGd E (wantedA L ⟨dst, op, ty, pos, after, some g⟩ s) L ⟨dst, op, ty, pos, after, none⟩ rest s dst H k := by
  apply propext
  cases hw : wantedA L ⟨dst, op, ty, pos, after, some g⟩ s with
  | true =>
    rw [EGd_true]
    constructor
    · rintro ⟨n, h⟩
      simp only [evOps, hw, if_true] at h
      exact ⟨n, by simp only [evOps, wantedA, if_true]; exact h⟩
    · rintro ⟨n, h⟩
      simp only [evOps, wantedA, if_true] at h
      exact ⟨n, by simp only [evOps, hw, if_true]; exact h⟩
  | false =>
    rw [EGd_false]
    constructor
    · rintro ⟨n, h⟩
      simp only [evOps, hw, Bool.false_eq_true, if_false] at h
      exact ⟨n, h⟩
    · rintro ⟨n, h⟩
      exact ⟨n, by simp only [evOps, hw, Bool.false_eq_true, if_false]; exact h⟩

/-! ### Slots -/
theorem sget_zero {x : Value} {s : List Value} : sget (x :: s) 0 = x := rfl
theorem sget_succ {x : Value} {s : List Value} {i : Nat} : sget (x :: s) (i + 1) = sget s i := rfl
theorem sget_nil {i : Nat} : sget [] i = undef := rfl
theorem sput_zero {x v : Value} {s : List Value} : sput (x :: s) 0 v = v :: s := rfl
theorem sput_succ {x v : Value} {s : List Value} {i : Nat} : sput (x :: s) (i + 1) v = x :: sput s i v := by
  unfold sput
  simp only [List.length_cons]
  by_cases h : i < s.length
  · rw [if_pos (by omega), if_pos h]; rfl
  · rw [if_neg (by omega), if_neg h, Nat.add_sub_add_right]; rfl
theorem sput_nil_zero {v : Value} : sput [] 0 v = [v] := rfl
theorem sput_nil_succ {v : Value} {i : Nat} : sput [] (i + 1) v = undef :: sput [] i v := by
  unfold sput
  simp [List.replicate_succ]

/-! ### Regions, what is behind them under a name -/
theorem ev_reg {ops : Array Oper} {l : List Oper} {id : Nat} {draw : Bool} {st : St} {Q : Exit → St → Prop} (hl : ops.toList = l) (hok : regOk draw l = true) (h : ∀ (K : St → Prop) (L : List Oper), L = l → (∀ st, Q .normal st → K st) → EvOps E L l st K) : Ev E (.region id ops draw) st Q := by
  subst hl
  exact ev_region hok fun K hK => h K _ rfl hK
theorem ev_reg_seq {ops : Array Oper} {l : List Oper} {id : Nat} {draw : Bool} {b : Code} {st : St} {Q : Exit → St → Prop} (hl : ops.toList = l) (hok : regOk draw l = true) (h : ∀ (K : St → Prop) (L : List Oper), L = l → (∀ st, Ev E b st Q → K st) → EvOps E L l st K) : Ev E (.seq (.region id ops draw) b) st Q := by
  subst hl
  exact ev_region_seq hok fun K hK => h K _ rfl hK

theorem wrap_i64 {n : Int} (h1 : -9223372036854775808 ≤ n) (h2 : n < 9223372036854775808) : IntKind.i64.wrap n = n := by
  have e : (2 : Int) ^ 64 = 18446744073709551616 := rfl
  have e2 : (2 : Int) ^ (64 - 1) = 9223372036854775808 := rfl
  simp only [IntKind.wrap, IntKind.bits, IntKind.signed, e, e2, Bool.true_and, decide_eq_true_eq]
  split <;> omega
theorem wrap_u64 {n : Int} (h1 : 0 ≤ n) (h2 : n < 18446744073709551616) : IntKind.u64.wrap n = n := by
  have e : (2 : Int) ^ 64 = 18446744073709551616 := rfl
  simp only [IntKind.wrap, IntKind.bits, IntKind.signed, e, Bool.false_and, Bool.false_eq_true, if_false]
  omega

/-! ### Memory -/
theorem get_app_new (N : AH) (j : Nat) : (H ++ N)[H.length + j]? = N[j]? := by
  rw [List.getElem?_append_right (by omega)]; congr 1; omega
theorem get_app_new0 (N : AH) : (H ++ N)[H.length]? = N[0]? := get_app_new N 0
theorem get_app_old {N : AH} {r : Nat} {o : AObj} (h : H[r]? = some o) : (H ++ N)[r]? = some o := by
  rw [List.getElem?_append_left (List.getElem?_eq_some_iff.1 h).1]; exact h
theorem set_app_new (N : AH) (j : Nat) (o : AObj) : (H ++ N).set (H.length + j) o = H ++ N.set j o := by
  rw [List.set_append, if_neg (by omega)]; simp
theorem set_app_new0 (N : AH) (o : AObj) : (H ++ N).set H.length o = H ++ N.set 0 o := set_app_new N 0 o
theorem len_app (N : AH) : (H ++ N).length = H.length + N.length := List.length_append
theorem app_app (N N' : AH) : (H ++ N) ++ N' = H ++ (N ++ N') := List.append_assoc ..

/-- One memory goes on from another. -/
def Pre (H H' : AH) : Prop := ∃ N, H' = H ++ N
theorem Pre.refl (H : AH) : Pre H H := ⟨[], (List.append_nil _).symm⟩
theorem Pre.trans {a b c : AH} (h : Pre a b) (k : Pre b c) : Pre a c := by
  obtain ⟨N, rfl⟩ := h; obtain ⟨N', rfl⟩ := k; exact ⟨N ++ N', List.append_assoc ..⟩
theorem Pre.app (N : AH) : Pre H (H ++ N) := ⟨N, rfl⟩
theorem Pre.get (h : Pre H H') {r : Nat} {o : AObj} (hr : H[r]? = some o) : H'[r]? = some o := by
  obtain ⟨N, rfl⟩ := h; exact get_app_old hr
theorem Pre.len (h : Pre H H') : H.length ≤ H'.length := by obtain ⟨N, rfl⟩ := h; simp

theorem Pre.ld (h : Pre H H') {a : Addr} {v : Value} (hv : ld E H a = some v) : ld E H' a = some v := by
  refine ld_agree hv fun r hr _ => ?_
  obtain ⟨N, rfl⟩ := h
  exact List.getElem?_append_left hr
theorem Pre.ldc (h : Pre H H') {a : Addr} {i n : Nat} {vs : List Value} (hv : ldc E H a i n = some vs) : ldc E H' a i n = some vs := by
  refine ldc_agree (fun r hr _ => ?_) n i vs hv
  obtain ⟨N, rfl⟩ := h
  exact List.getElem?_append_left hr

/-- A new object, its address. -/
def ldO (o : Option AObj) (off : Nat) : Option Value := match o with
  | some (.cells c _ _) => c[off]?
  | _ => none
theorem ldO_cells {c : List Value} {k : Nat} {own : Bool} {off : Nat} : ldO (some (.cells c k own)) off = c[off]? := rfl
theorem ld_new {r : Nat} {off : Nat} : ld E H ⟨E.M + r, off, none⟩ = ldO H[r]? off := by
  unfold ld ldO
  rw [if_neg (by simp)]
  simp only [Nat.add_sub_cancel_left, Option.isSome_none, Bool.false_eq_true, if_false]
  generalize H[r]? = x
  rcases x with _ | o
  · rfl
  · cases o <;> rfl
def stO (H : AH) (r : Nat) (o : Option AObj) (off : Nat) (vs : List Value) : Option AH := match o with
  | some (.cells c k true) => if off + vs.length ≤ c.length ∧ vs.all Value.oneCell' = true then some (H.set r (.cells (overwrite c off vs) k true)) else none
  | _ => none
theorem stO_cells {r off k : Nat} {c vs : List Value} (h : off + vs.length ≤ c.length) (h2 : vs.all Value.oneCell' = true) : stO H r (some (.cells c k true)) off vs = some (H.set r (.cells (overwrite c off vs) k true)) := if_pos ⟨h, h2⟩
theorem stO_app {r off k : Nat} {c vs : List Value} : stO H r (some (.cells c k true)) off vs = if off + vs.length ≤ c.length ∧ vs.all Value.oneCell' = true then some (H.set r (.cells (overwrite c off vs) k true)) else none := rfl
theorem stc_new {r : Nat} {off : Nat} {vs : List Value} : stc E H ⟨E.M + r, off, none⟩ vs = stO H r H[r]? off vs := by
  unfold stc stO
  rw [if_neg (by simp)]
  simp only [Nat.add_sub_cancel_left]
  generalize H[r]? = x
  rcases x with _ | o
  · rfl
  · cases o with
    | cells c k own => cases own <;> rfl
    | _ => rfl

/-! ### A value's cells -/
theorem cells_agg {cs : Array Value} : (Value.agg cs).cells = cs := rfl
theorem cells_bool {b : Bool} : (Value.bool b).cells = #[.bool b] := rfl
theorem one_bool {b : Bool} : (Value.bool b).oneCell' = true := rfl
theorem cells_int {k : IntKind} {n : Int} : (Value.int k n).cells = #[.int k n] := rfl
theorem one_int {k : IntKind} {n : Int} : (Value.int k n).oneCell' = true := rfl
theorem cells_string {s : ByteArray} : (Value.string s).cells = #[.string s] := rfl
theorem one_string {s : ByteArray} : (Value.string s).oneCell' = true := rfl
theorem cells_pointer {a : Option Addr} : (Value.pointer a).cells = #[.pointer a] := rfl
theorem one_pointer {a : Option Addr} : (Value.pointer a).oneCell' = true := rfl
theorem cells_slice {a : Option Addr} {n c : Nat} : (Value.slice a n c).cells = #[.slice a n c] := rfl
theorem one_slice {a : Option Addr} {n c : Nat} : (Value.slice a n c).oneCell' = true := rfl
theorem cells_map {r : Option Nat} : (Value.map r).cells = #[.map r] := rfl
theorem one_map {r : Option Nat} : (Value.map r).oneCell' = true := rfl
theorem cells_func {f : Fn} {a b : Array Value} : (Value.func f a b).cells = #[.func f a b] := rfl
theorem one_func {f : Fn} {a b : Array Value} : (Value.func f a b).oneCell' = true := rfl
theorem cells_nilFunc  : (Value.nilFunc).cells = #[.nilFunc] := rfl
theorem one_nilFunc  : (Value.nilFunc).oneCell' = true := rfl
theorem cells_iface {t : TypeId} {v : Value} : (Value.iface t v).cells = #[.iface t v] := rfl
theorem one_iface {t : TypeId} {v : Value} : (Value.iface t v).oneCell' = true := rfl
theorem cells_nilIface  : (Value.nilIface).cells = #[.nilIface] := rfl
theorem one_nilIface  : (Value.nilIface).oneCell' = true := rfl

end Go.Proofs.Ytmjcfcbjccepnaa.Eng
