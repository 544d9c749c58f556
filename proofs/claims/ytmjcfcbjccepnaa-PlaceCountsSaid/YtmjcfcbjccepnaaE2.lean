/-
  How a value of the abstract machine stands for a value of the real one.
-/
import Derived.Test.YtmjcfcbjccepnaaE1
namespace Go.Proofs.Ytmjcfcbjccepnaa.Eng
open Go

/-- Where a new object lies: its block, its first cell, how many cells its row has from there on, cells per element. -/
structure RI where
  blk : Nat
  base : Nat
  row : Nat
  k : Nat
abbrev Rep := Nat → Option RI

mutual
inductive VR (M : Nat) (φ : Rep) : Value → Value → Prop
  | bool (b : Bool) : VR M φ (.bool b) (.bool b)
  | int (k : IntKind) (n : Int) : VR M φ (.int k n) (.int k n)
  | float (k : FloatKind) (n : Nat) : VR M φ (.float k n) (.float k n)
  | complex (k : FloatKind) (a b : Nat) : VR M φ (.complex k a b) (.complex k a b)
  | string (s : ByteArray) : VR M φ (.string s) (.string s)
  | ptrNil : VR M φ (.pointer none) (.pointer none)
  | ptrOld (a : Addr) (h : a.block < M) : VR M φ (.pointer (some a)) (.pointer (some a))
  | ptrNew (r off : Nat) (ri : RI) (h : φ r = some ri) : VR M φ (.pointer (some ⟨M + r, off, none⟩)) (.pointer (some ⟨ri.blk, ri.base + off, none⟩))
  | sliceNil (n c : Nat) : VR M φ (.slice none n c) (.slice none n c)
  | sliceOld (a : Addr) (n c : Nat) (h : a.block < M) : VR M φ (.slice (some a) n c) (.slice (some a) n c)
  | sliceNew (r off n c c' : Nat) (ri : RI) (h : φ r = some ri) (hc : c = c' ∨ c = INF) (hn : n ≤ c') (hb : off + c' * ri.k ≤ ri.row) :
      VR M φ (.slice (some ⟨M + r, off, none⟩) n c) (.slice (some ⟨ri.blk, ri.base + off, none⟩) n c')
  | sliceEmp (r off : Nat) (a : Addr) (c : Nat) (hc : c = 0 ∨ c = INF) : VR M φ (.slice (some ⟨M + r, off, none⟩) 0 c) (.slice (some a) 0 0)
  | mapNil : VR M φ (.map none) (.map none)
  | mapOld (r : Nat) (h : r < M) : VR M φ (.map (some r)) (.map (some r))
  | mapNew (r : Nat) (ri : RI) (h : φ r = some ri) : VR M φ (.map (some (M + r))) (.map (some ri.blk))
  | chan (r : Option Nat) : VR M φ (.chan r) (.chan r)
  | func (f : Fn) (a b a' b' : Array Value) (ha : VRs M φ a.toList a'.toList) (hb : VRs M φ b.toList b'.toList) : VR M φ (.func f a b) (.func f a' b')
  | nilFunc : VR M φ .nilFunc .nilFunc
  | iface (t : TypeId) (v v' : Value) (h : VR M φ v v') : VR M φ (.iface t v) (.iface t v')
  | nilIface : VR M φ .nilIface .nilIface
  | agg (a a' : Array Value) (ha : VRs M φ a.toList a'.toList) : VR M φ (.agg a) (.agg a')
  | tuple (a a' : Array Value) (ha : VRs M φ a.toList a'.toList) : VR M φ (.tuple a) (.tuple a')
inductive VRs (M : Nat) (φ : Rep) : List Value → List Value → Prop
  | nil : VRs M φ [] []
  | cons (x y : Value) (xs ys : List Value) (h : VR M φ x y) (hs : VRs M φ xs ys) : VRs M φ (x :: xs) (y :: ys)
end

def Ext (φ φ' : Rep) : Prop := ∀ r ri, φ r = some ri → φ' r = some ri
theorem Ext.refl (φ : Rep) : Ext φ φ := fun _ _ h => h
theorem Ext.trans {a b c : Rep} (h : Ext a b) (k : Ext b c) : Ext a c := fun r ri hr => k r ri (h r ri hr)

variable {M : Nat} {φ φ' : Rep}

mutual
theorem VR.mono (hx : Ext φ φ') : ∀ {v v' : Value}, VR M φ v v' → VR M φ' v v'
  | _, _, .bool b => .bool b
  | _, _, .int k n => .int k n
  | _, _, .float k n => .float k n
  | _, _, .complex k a b => .complex k a b
  | _, _, .string s => .string s
  | _, _, .ptrNil => .ptrNil
  | _, _, .ptrOld a h => .ptrOld a h
  | _, _, .ptrNew r off ri h => .ptrNew r off ri (hx _ _ h)
  | _, _, .sliceNil n c => .sliceNil n c
  | _, _, .sliceOld a n c h => .sliceOld a n c h
  | _, _, .sliceNew r off n c c' ri h hc hn hb => .sliceNew r off n c c' ri (hx _ _ h) hc hn hb
  | _, _, .sliceEmp r off a c hc => .sliceEmp r off a c hc
  | _, _, .mapNil => .mapNil
  | _, _, .mapOld r h => .mapOld r h
  | _, _, .mapNew r ri h => .mapNew r ri (hx _ _ h)
  | _, _, .chan r => .chan r
  | _, _, .func f a b a' b' ha hb => .func f a b a' b' (VRs.mono hx ha) (VRs.mono hx hb)
  | _, _, .nilFunc => .nilFunc
  | _, _, .iface t v v' h => .iface t v v' (VR.mono hx h)
  | _, _, .nilIface => .nilIface
  | _, _, .agg a a' ha => .agg a a' (VRs.mono hx ha)
  | _, _, .tuple a a' ha => .tuple a a' (VRs.mono hx ha)
theorem VRs.mono (hx : Ext φ φ') : ∀ {l l' : List Value}, VRs M φ l l' → VRs M φ' l l'
  | _, _, .nil => .nil
  | _, _, .cons x y xs ys h hs => .cons x y xs ys (VR.mono hx h) (VRs.mono hx hs)
end

theorem VRs.length {l l' : List Value} (h : VRs M φ l l') : l.length = l'.length := by
  induction l generalizing l' with
  | nil => cases h; rfl
  | cons x xs ih => cases h with | cons _ _ _ _ h hs => simp [ih hs]

theorem VRs.get {l l' : List Value} (h : VRs M φ l l') : ∀ (i : Nat) (v : Value), l[i]? = some v → ∃ v', l'[i]? = some v' ∧ VR M φ v v' := by
  induction l generalizing l' with
  | nil => intro i v hv; simp at hv
  | cons x xs ih =>
    cases h with
    | cons _ y _ ys h hs =>
      intro i v hv
      cases i with
      | zero => simp at hv; subst hv; exact ⟨y, by simp, h⟩
      | succ i => simpa using ih hs i v (by simpa using hv)

theorem VRs.get' {l l' : List Value} (h : VRs M φ l l') : ∀ (i : Nat) (v' : Value), l'[i]? = some v' → ∃ v, l[i]? = some v ∧ VR M φ v v' := by
  induction l generalizing l' with
  | nil => cases h; intro i v hv; simp at hv
  | cons x xs ih =>
    cases h with
    | cons _ y _ ys h hs =>
      intro i v hv
      cases i with
      | zero => simp at hv; subst hv; exact ⟨x, by simp, h⟩
      | succ i => simpa using ih hs i v (by simpa using hv)

theorem VRs.of_get {l l' : List Value} (hl : l.length = l'.length) (h : ∀ (i : Nat) (v v' : Value), l[i]? = some v → l'[i]? = some v' → VR M φ v v') : VRs M φ l l' := by
  induction l generalizing l' with
  | nil => cases l' with
    | nil => exact .nil
    | cons _ _ => simp at hl
  | cons x xs ih => cases l' with
    | nil => simp at hl
    | cons y ys =>
      refine .cons _ _ _ _ (h 0 x y (by simp) (by simp)) (ih (by simpa using hl) fun i v v' hv hv' => h (i + 1) v v' (by simpa using hv) (by simpa using hv'))

theorem VRs.append {a a' b b' : List Value} (h : VRs M φ a a') (k : VRs M φ b b') : VRs M φ (a ++ b) (a' ++ b') := by
  induction a generalizing a' with
  | nil => cases h; exact k
  | cons x xs ih => cases h with | cons _ _ _ _ h hs => exact .cons _ _ _ _ h (ih hs)

theorem VRs.take {a a' : List Value} (h : VRs M φ a a') (n : Nat) : VRs M φ (a.take n) (a'.take n) := by
  induction a generalizing a' n with
  | nil => cases h; simpa using VRs.nil
  | cons x xs ih => cases h with
    | cons _ _ _ _ h hs => cases n with
      | zero => exact .nil
      | succ n => exact .cons _ _ _ _ h (ih hs n)

theorem VRs.drop {a a' : List Value} (h : VRs M φ a a') (n : Nat) : VRs M φ (a.drop n) (a'.drop n) := by
  induction a generalizing a' n with
  | nil => cases h; simpa using VRs.nil
  | cons x xs ih => cases h with
    | cons _ _ _ _ h hs => cases n with
      | zero => exact .cons _ _ _ _ h hs
      | succ n => exact ih hs n

theorem VRs.overwrite {a a' b b' : List Value} (h : VRs M φ a a') (k : VRs M φ b b') (off : Nat) : VRs M φ (overwrite a off b) (overwrite a' off b') := by
  unfold Eng.overwrite
  rw [k.length]
  exact ((h.take _).append k).append (h.drop _)

theorem VRs.replicate {v v' : Value} (h : VR M φ v v') : ∀ n, VRs M φ (List.replicate n v) (List.replicate n v')
  | 0 => .nil
  | n + 1 => .cons _ _ _ _ h (VRs.replicate h n)

theorem VRs.rep {z z' : List Value} (h : VRs M φ z z') : ∀ n, VRs M φ (repCells z n) (repCells z' n)
  | 0 => .nil
  | n + 1 => h.append (VRs.rep h n)

theorem VRs.map {α : Type} {f g : α → Value} (h : ∀ x, VR M φ (f x) (g x)) : ∀ (l : List α), VRs M φ (l.map f) (l.map g)
  | [] => .nil
  | x :: xs => .cons _ _ _ _ (h x) (VRs.map h xs)

theorem VRs.map_mem {α : Type} {f g : α → Value} : ∀ (l : List α), (∀ x ∈ l, VR M φ (f x) (g x)) → VRs M φ (l.map f) (l.map g)
  | [], _ => .nil
  | x :: xs, h => .cons _ _ _ _ (h x (by simp)) (VRs.map_mem xs fun y hy => h y (by simp [hy]))

theorem VR.cells {v v' : Value} (h : VR M φ v v') : VRs M φ v.cells.toList v'.cells.toList := by
  cases h with
  | agg a a' ha => exact ha
  | bool b => exact .cons _ _ _ _ (.bool b) .nil
  | int k n => exact .cons _ _ _ _ (.int k n) .nil
  | float k n => exact .cons _ _ _ _ (.float k n) .nil
  | complex k a b => exact .cons _ _ _ _ (.complex k a b) .nil
  | string s => exact .cons _ _ _ _ (.string s) .nil
  | ptrNil => exact .cons _ _ _ _ .ptrNil .nil
  | ptrOld a h => exact .cons _ _ _ _ (.ptrOld a h) .nil
  | ptrNew r off ri h => exact .cons _ _ _ _ (.ptrNew r off ri h) .nil
  | sliceNil n c => exact .cons _ _ _ _ (.sliceNil n c) .nil
  | sliceOld a n c h => exact .cons _ _ _ _ (.sliceOld a n c h) .nil
  | sliceNew r off n c c' ri h hc hn hb => exact .cons _ _ _ _ (.sliceNew r off n c c' ri h hc hn hb) .nil
  | sliceEmp r off a c hc => exact .cons _ _ _ _ (.sliceEmp r off a c hc) .nil
  | mapNil => exact .cons _ _ _ _ .mapNil .nil
  | mapOld r h => exact .cons _ _ _ _ (.mapOld r h) .nil
  | mapNew r ri h => exact .cons _ _ _ _ (.mapNew r ri h) .nil
  | chan r => exact .cons _ _ _ _ (.chan r) .nil
  | func f a b a' b' ha hb => exact .cons _ _ _ _ (.func f a b a' b' ha hb) .nil
  | nilFunc => exact .cons _ _ _ _ .nilFunc .nil
  | iface t v v' h => exact .cons _ _ _ _ (.iface t v v' h) .nil
  | nilIface => exact .cons _ _ _ _ .nilIface .nil
  | tuple a a' ha => exact .cons _ _ _ _ (.tuple a a' ha) .nil

theorem VR.oneCell {v v' : Value} (h : VR M φ v v') : v.oneCell' = v'.oneCell' := by cases h <;> rfl

theorem VRs.oneCell {l l' : List Value} (h : VRs M φ l l') : l.all Value.oneCell' = l'.all Value.oneCell' := by
  induction l generalizing l' with
  | nil => cases h; rfl
  | cons x xs ih => cases h with | cons _ _ _ _ h hs => simp [h.oneCell, ih hs]

theorem VR.undef : VR M φ undef undef := .tuple #[] #[] .nil

theorem VRs.getD {l l' : List Value} (h : VRs M φ l l') (i : Nat) : VR M φ (l.getD i Go.undef) (l'.getD i Go.undef) := by
  cases hl : l[i]? with
  | none =>
    have : l'[i]? = none := by rw [List.getElem?_eq_none_iff] at hl ⊢; rw [← h.length]; exact hl
    simp [List.getD, hl, this]; exact VR.undef
  | some v =>
    obtain ⟨v', h1, h2⟩ := h.get i v hl
    simp [List.getD, hl, h1]; exact h2

theorem VRs.set {l l' : List Value} (h : VRs M φ l l') {v v' : Value} (hv : VR M φ v v') (i : Nat) : VRs M φ (l.set i v) (l'.set i v') := by
  induction l generalizing l' i with
  | nil => cases h; simpa using VRs.nil
  | cons x xs ih => cases h with
    | cons _ _ _ _ h hs => cases i with
      | zero => exact .cons _ _ _ _ hv hs
      | succ i => exact .cons _ _ _ _ h (ih hs i)

/-! ### Constants -/
theorem VR.plain1 {v : Value} (h : Eng.plain1 v = true) : VR M φ v v := by
  unfold Eng.plain1 at h
  split at h
  · exact .bool _
  · exact .int _ _
  · exact .float _ _
  · exact .complex _ _ _
  · exact .string _
  · exact .ptrNil
  · exact .sliceNil _ _
  · exact .mapNil
  · exact .chan _
  · exact .nilFunc
  · exact .nilIface
  · rename_i f a b
    simp only [Bool.and_eq_true, Array.isEmpty_iff] at h
    obtain ⟨rfl, rfl⟩ := h
    exact .func _ _ _ _ _ .nil .nil
  · simp at h

theorem VRs.plain1 : ∀ {l : List Value}, l.all Eng.plain1 = true → VRs M φ l l
  | [], _ => .nil
  | x :: xs, h => by
    simp only [List.all_cons, Bool.and_eq_true] at h
    exact .cons _ _ _ _ (VR.plain1 h.1) (VRs.plain1 h.2)

theorem VR.plain {v : Value} (h : plainV v = true) : VR M φ v v := by
  unfold plainV at h
  split at h
  · exact .agg _ _ (VRs.plain1 h)
  · exact .tuple _ _ (VRs.plain1 h)
  · exact .iface _ _ _ (VR.plain1 h)
  · exact VR.plain1 h

/-! ### Slots -/
theorem sget_sput (s : List Value) (i j : Nat) (v : Value) : sget (sput s i v) j = if i = j then v else sget s j := by
  unfold sget sput
  by_cases h : i < s.length
  · rw [if_pos h]
    by_cases e : i = j
    · subst e; simp [h]
    · simp [e, List.getElem?_set]
  · rw [if_neg h]
    by_cases e : i = j
    · subst e
      rw [if_pos rfl]
      simp only [List.getD_eq_getElem?_getD]
      rw [List.getElem?_append_right (by simp; omega)]
      simp
      rw [show i - (s.length + (i - s.length)) = 0 by omega]
      rfl
    · rw [if_neg e]
      simp only [List.getD_eq_getElem?_getD]
      by_cases hj : j < s.length
      · rw [List.getElem?_append_left (by simp; omega), List.getElem?_append_left hj]
      · rw [List.getElem?_eq_none (l := s) (by omega)]
        by_cases hj2 : j < i
        · rw [List.getElem?_append_left (by simp; omega), List.getElem?_append_right (by omega)]
          rw [List.getElem?_replicate, if_pos (by omega)]; rfl
        · rw [List.getElem?_eq_none (by simp; omega)]

end Go.Proofs.Ytmjcfcbjccepnaa.Eng
