/-
  Rows of own objects, element by element; function values; encodings.
-/
import Derived.Test.YtmjcfcbjccepnaaE21
namespace Go.Proofs.Ytmjcfcbjccepnaa.Eng
open Go Go.RowKit
set_option linter.unusedSimpArgs false
set_option linter.unusedVariables false
set_option linter.unusedSectionVars false

variable {E : Env} {H H' H0 H1 H2 : AH}

/-- How a datum lies in cells, and what it is as a value. -/
structure Enc (α : Type) where
  k : Nat
  cs : α → List Value
  vl : α → Value
  len : ∀ x, (cs x).length = k
  one : ∀ x, (cs x).all Value.oneCell' = true
  cells : ∀ x, (vl x).cells.toList = cs x

theorem Enc.lens {α : Type} (e : Enc α) (l : List α) : ∀ c ∈ l.map e.cs, c.length = e.k := by
  intro c h; obtain ⟨x, _, rfl⟩ := List.mem_map.1 h; exact e.len x
theorem Enc.alls {α : Type} (e : Enc α) (l : List α) : ((l.map e.cs).flatten).all Value.oneCell' = true := by
  induction l with
  | nil => rfl
  | cons x l ih => rw [List.map_cons, List.flatten_cons, List.all_append, ih, e.one x]; rfl

def eI (k : IntKind) : Enc Int := ⟨1, ie k, Value.int k, fun _ => rfl, fun _ => rfl, fun _ => rfl⟩
def eP : Enc (Int × Int) := ⟨2, pe, fun x => .agg #[.int .i64 x.1, .int .i64 x.2], fun _ => rfl, fun _ => rfl, fun _ => rfl⟩

/-- A slice that reads as a list. -/
def RdE {α : Type} (e : Enc α) (E : Env) (H : AH) (v : Value) (l : List α) : Prop := Rd E H e.k v (l.map e.cs)
/-- A slice that was built. -/
def BldE {α : Type} (e : Enc α) (E : Env) (H0 H : AH) (v : Value) (l : List α) : Prop := Bld E H0 H e.k v (l.map e.cs)
theorem RdE.pre {α : Type} {e : Enc α} {v : Value} {l : List α} (h : RdE e E H v l) (hp : Pre H H') : RdE e E H' v l := Rd.pre h hp
theorem BldE.pre {α : Type} {e : Enc α} {v : Value} {l : List α} (h : BldE e E H0 H v l) (hp : Pre H H') : BldE e E H0 H' v l := Bld.pre h hp
theorem BldE.rd {α : Type} {e : Enc α} {v : Value} {l : List α} (h : BldE e E H0 H v l) : RdE e E H v l := Bld.rd h
theorem RdE.open {α : Type} {e : Enc α} {v : Value} {l : List α} (h : RdE e E H v l) : ∃ (base : Option Addr) (cap : Nat), v = .slice base l.length cap ∧ ∀ i, (hi : i < l.length) → ∃ a, base = some a ∧ ldc E H (a.add (i * e.k)) 0 e.k = some (e.cs l[i]) := by
  obtain ⟨b, c, hv, hr⟩ := h
  exact ⟨b, c, by simpa using hv, fun i hi => hr i (e.cs l[i]) (by simp [hi])⟩
theorem RdE.nil {α : Type} {e : Enc α} : RdE e E H (.slice none 0 0) [] := ⟨none, 0, rfl, fun i cs hi => by simp at hi⟩

theorem ld_of_ldc1 {a : Addr} {n : Nat} {x : Value} (h : ldc E H (a.add n) 0 1 = some [x]) : ld E H (a.add n) = some x := by
  rw [ldc_one, addr_add_add] at h; exact h

theorem ldc_new0 {cs : List Value} {k n : Nat} {own : Bool} (h : cs.length = n) : ldc E (H ++ [.cells cs k own]) ⟨E.M + H.length, 0, none⟩ 0 n = some cs := by
  refine ldc_of_get n 0 cs h fun j v hj => ?_
  rw [add_lit, ld_new, get_app_new0]
  simpa [ldO] using hj

/-- A row's address, not looked into. -/
def adr (E : Env) (r : Nat) : Addr := ⟨E.M + r, 0, none⟩
def Row (H : AH) (r k : Nat) (css : List (List Value)) (tail : List Value) : Prop := H[r]? = some (.cells (css.flatten ++ tail) k true) ∧ ∀ c ∈ css, c.length = k

theorem Bld.own {k : Nat} {v : Value} {css : List (List Value)} (h : Bld E H0 H k v css) : (css = [] ∧ ∃ base, v = .slice base 0 0) ∨ ∃ r tail, v = .slice (some (adr E r)) css.length INF ∧ Row H r k css tail ∧ H0.length ≤ r := by
  obtain ⟨hl, h | ⟨r, tail, hv, hr, h0⟩⟩ := h
  · exact .inl h
  · exact .inr ⟨r, tail, hv, ⟨hr, hl⟩, h0⟩
theorem Row.bld {r k : Nat} {css : List (List Value)} {tail : List Value} (h : Row H r k css tail) (h0 : H0.length ≤ r) : Bld E H0 H k (.slice (some (adr E r)) css.length INF) css := ⟨h.2, .inr ⟨r, tail, rfl, h.1, h0⟩⟩
theorem Row.pre {r k : Nat} {css : List (List Value)} {tail : List Value} (h : Row H r k css tail) (hp : Pre H H') : Row H' r k css tail := ⟨hp.get h.1, h.2⟩

theorem adr_add {r n : Nat} : (adr E r).add n = ⟨E.M + r, n, none⟩ := by simp [adr, Addr.add]; exact fun h => h.symm

theorem Row.get {r k : Nat} {css : List (List Value)} {tail : List Value} (h : Row H r k css tail) {i : Nat} (hi : i < css.length) : ldc E H ((adr E r).add (i * k)) 0 k = some css[i] := by
  obtain ⟨hr, hl⟩ := h
  have hcl : css[i].length = k := hl _ (List.getElem_mem hi)
  refine ldc_of_get k 0 _ hcl fun j u hj => ?_
  have hjk : j < k := by have := (List.getElem?_eq_some_iff.1 hj).1; omega
  have hg := flatten_get hl (show css[i]? = some css[i] by simp [hi]) hjk
  rw [hj] at hg
  rw [addr_add_add, adr_add, ld_new, hr, ldO_cells, Nat.zero_add, List.getElem?_append_left (List.getElem?_eq_some_iff.1 hg).1]
  exact hg

theorem flatten_take {css : List (List Value)} {k : Nat} (h : ∀ c ∈ css, c.length = k) (i : Nat) (hi : i ≤ css.length) (tail : List Value) : (css.flatten ++ tail).take (i * k) = (css.take i).flatten := by
  have e : css.flatten ++ tail = (css.take i).flatten ++ ((css.drop i).flatten ++ tail) := by
    rw [← List.append_assoc, ← List.flatten_append, List.take_append_drop]
  have hl : (css.take i).flatten.length = i * k := by
    rw [flatten_len (k := k) fun c hc => h c (List.mem_of_mem_take hc), List.length_take, Nat.min_eq_left hi]
  rw [e, ← hl, List.take_left]
theorem flatten_drop {css : List (List Value)} {k : Nat} (h : ∀ c ∈ css, c.length = k) (i : Nat) (hi : i ≤ css.length) (tail : List Value) : (css.flatten ++ tail).drop (i * k) = (css.drop i).flatten ++ tail := by
  have e : css.flatten ++ tail = (css.take i).flatten ++ ((css.drop i).flatten ++ tail) := by
    rw [← List.append_assoc, ← List.flatten_append, List.take_append_drop]
  have hl : (css.take i).flatten.length = i * k := by
    rw [flatten_len (k := k) fun c hc => h c (List.mem_of_mem_take hc), List.length_take, Nat.min_eq_left hi]
  rw [e, ← hl, List.drop_left]

theorem lens_set {css : List (List Value)} {k : Nat} (h : ∀ c ∈ css, c.length = k) {i : Nat} {c : List Value} (hc : c.length = k) : ∀ d ∈ css.set i c, d.length = k := by
  intro d hd
  rcases List.mem_or_eq_of_mem_set hd with h1 | h1
  · exact h d h1
  · rw [h1]; exact hc

theorem over_flat {css : List (List Value)} {k : Nat} (h : ∀ c ∈ css, c.length = k) {i : Nat} {c : List Value} (hc : c.length = k) (hi : i < css.length) (tail : List Value) : overwrite (css.flatten ++ tail) (i * k) c = (css.set i c).flatten ++ tail := by
  unfold overwrite
  have e : i * k + c.length = (i + 1) * k := by rw [hc, Nat.succ_mul]
  rw [e, flatten_take h i (by omega), flatten_drop h (i + 1) hi, List.set_eq_take_append_cons_drop, if_pos hi, List.flatten_append, List.flatten_cons]
  simp [List.append_assoc]

theorem Row.set {r k : Nat} {css : List (List Value)} {tail : List Value} (h : Row H r k css tail) {i : Nat} (hi : i < css.length) {c : List Value} (hc : c.length = k) (h1 : c.all Value.oneCell' = true) :
    ∃ H', stc E H ((adr E r).add (i * k)) c = some H' ∧ Row H' r k (css.set i c) tail ∧ ∃ o, H' = H.set r o := by
  obtain ⟨hr, hl⟩ := h
  have hlen : i * k + c.length ≤ (css.flatten ++ tail).length := by
    rw [List.length_append, flatten_len hl, hc, ← Nat.succ_mul]
    exact Nat.le_trans (Nat.mul_le_mul_right k hi) (Nat.le_add_right _ _)
  refine ⟨_, by rw [adr_add, stc_new, hr, stO_cells hlen h1], ⟨?_, lens_set hl hc⟩, _, rfl⟩
  rw [List.getElem?_set_self (List.getElem?_eq_some_iff.1 hr).1, over_flat hl hc hi]

theorem Row.wd {r k : Nat} {css : List (List Value)} {tail : List Value} (h : Row H r k css tail) (n : Nat) : widthAt E H k (some ((adr E r).add n)) = true := by
  rw [adr_add]
  simp [widthAt, h.1]
theorem Row.wd0 {r k : Nat} {css : List (List Value)} {tail : List Value} (h : Row H r k css tail) : widthAt E H k (some (adr E r)) = true := by
  simp [widthAt, adr, h.1]
theorem adr_unk {r n : Nat} : unkCap E (some ((adr E r).add n)) INF = true := by rw [adr_add]; simp [unkCap]
theorem adr_unk0 {r : Nat} : unkCap E (some (adr E r)) INF = true := by simp [unkCap, adr]

theorem Row.shrink {r k : Nat} {css : List (List Value)} {tail : List Value} (h : Row H r k css tail) (i : Nat) : Row H r k (css.take i) ((css.drop i).flatten ++ tail) := by
  refine ⟨?_, fun c hc => h.2 c (List.mem_of_mem_take hc)⟩
  rw [h.1, ← List.append_assoc, ← List.flatten_append, List.take_append_drop]

theorem repCells_len (z : List Value) : ∀ n, (repCells z n).length = n * z.length
  | 0 => by simp [repCells]
  | n + 1 => by rw [repCells, List.length_append, repCells_len z n, Nat.succ_mul]; omega
theorem repCells_one' {z : List Value} (h : z.all Value.oneCell' = true) : ∀ n, (repCells z n).all Value.oneCell' = true
  | 0 => rfl
  | n + 1 => by rw [repCells, List.all_append, h, repCells_one' h n]; rfl

theorem Row.clear {t e : TypeId} {z : Value} {r k n cap : Nat} {css : List (List Value)} {tail : List Value} (hu : E.P.underlying t = some (.slice e)) (hz : zeroT E e = some z) (hzk : z.cells.size = k) (h1 : z.cells.toList.all Value.oneCell' = true)
    (h : Row H r k css tail) (i : Nat) (hin : i + n ≤ css.length) :
    ∃ H' tail', evClear E #[t] [.slice (some ((adr E r).add (i * k))) n cap] H = some (undef, H') ∧ Row H' r k (css.take i) tail' ∧ ∃ o, H' = H.set r o := by
  by_cases hn : n = 0
  · refine ⟨H, _, by simp [evClear, hu, hn], h.shrink i, .cells (css.flatten ++ tail) k true, ?_⟩
    obtain ⟨hh, he⟩ := List.getElem?_eq_some_iff.1 h.1
    rw [← he]; exact (List.set_getElem_self hh).symm
  · obtain ⟨hr, hl⟩ := h
    have hrl : (repCells z.cells.toList n).length = n * k := by rw [repCells_len, ← hzk, Array.length_toList]
    have hlen : i * k + (repCells z.cells.toList n).length ≤ (css.flatten ++ tail).length := by
      rw [List.length_append, flatten_len hl, hrl, ← Nat.add_mul]
      exact Nat.le_trans (Nat.mul_le_mul_right k hin) (Nat.le_add_right _ _)
    have hs : stc E H ((adr E r).add (i * k)) (repCells z.cells.toList n) = some (H.set r (.cells (overwrite (css.flatten ++ tail) (i * k) (repCells z.cells.toList n)) k true)) := by
      rw [adr_add, stc_new, hr, stO_cells hlen (repCells_one' h1 n)]
    have hev : evClear E #[t] [.slice (some ((adr E r).add (i * k))) n cap] H = some (undef, H.set r (.cells (overwrite (css.flatten ++ tail) (i * k) (repCells z.cells.toList n)) k true)) := by simp [evClear, hu, hn, hz, hs]
    refine ⟨_, repCells z.cells.toList n ++ (css.flatten ++ tail).drop (i * k + (repCells z.cells.toList n).length), hev, ⟨?_, fun c hc => hl c (List.mem_of_mem_take hc)⟩, _, rfl⟩
    rw [List.getElem?_set_self (List.getElem?_eq_some_iff.1 hr).1]
    unfold overwrite
    rw [flatten_take hl i (by omega), List.append_assoc]

/-! ### Function values -/
/-- A function value that answers p, wherever Fr holds. -/
def FnOk (E : Env) {α : Type} (Fr : AH → Prop) (fv : Value) (arg : α → Value) (p : α → Bool) : Prop :=
  ∃ g fst cap, fv = .func (.func g) fst cap ∧ ∀ (x : α) (H1 : AH) (k : Value → AH → Prop), Fr H1 → (∀ H2, Pre H1 H2 → k (.bool (p x)) H2) → EvCall E g (fst.toList ++ [arg x] ++ cap.toList) H1 k
def FrPre (Fr : AH → Prop) : Prop := ∀ H1 H2, Fr H1 → Pre H1 H2 → Fr H2
theorem FnOk.weaken {α : Type} {Fr Fr' : AH → Prop} {fv : Value} {arg : α → Value} {p : α → Bool} (h : FnOk E Fr fv arg p) (hw : ∀ H1, Fr' H1 → Fr H1) : FnOk E Fr' fv arg p := by
  obtain ⟨g, a, b, hv, hf⟩ := h
  exact ⟨g, a, b, hv, fun x H1 k h1 hk => hf x H1 k (hw H1 h1) hk⟩

/-- The first place at which p holds; -1: there is none. -/
def FirstAt {α : Type} (l : List α) (p : α → Bool) (i : Int) : Prop := (i = -1 ∧ l.any p = false) ∨ ∃ n : Nat, i = n ∧ ∃ h : n < l.length, p l[n] = true ∧ (l.take n).any p = false

theorem map_take_succ {α β : Type} (f : α → β) (l : List α) (i : Nat) (h : i < l.length) : (l.take (i + 1)).map f = (l.take i).map f ++ [f l[i]] := by
  rw [List.take_add_one, List.map_append]; simp [h]
theorem take_succ' {α : Type} (l : List α) (i : Nat) (h : i < l.length) : l.take (i + 1) = l.take i ++ [l[i]] := by
  rw [List.take_add_one]; simp [h]

theorem Bld.shape {k : Nat} {v : Value} {css : List (List Value)} (h : Bld E H0 H k v css) : ∃ b n c, v = .slice b n c := by
  obtain ⟨_, ⟨_, b, hv⟩ | ⟨r, tail, hv, _⟩⟩ := h
  · exact ⟨_, _, _, hv⟩
  · exact ⟨_, _, _, hv⟩
theorem Bld.base {k : Nat} {v : Value} {css : List (List Value)} (h : Bld E H1 H k v css) (hp : Pre H0 H1) : Bld E H0 H k v css := by
  obtain ⟨hl, h | ⟨r, tail, hv, hr, h0⟩⟩ := h
  · exact ⟨hl, .inl h⟩
  · exact ⟨hl, .inr ⟨r, tail, hv, hr, by have := hp.len; omega⟩⟩
theorem BldE.base {α : Type} {e : Enc α} {v : Value} {l : List α} (h : BldE e E H1 H v l) (hp : Pre H0 H1) : BldE e E H0 H v l := Bld.base h hp
theorem Rd.shape {k : Nat} {v : Value} {css : List (List Value)} (h : Rd E H k v css) : ∃ b c, v = .slice b css.length c := by
  obtain ⟨b, c, hv, _⟩ := h
  exact ⟨b, c, hv⟩

/-- Of equal neighbours, one. -/
def cmpct : List Int → List Int
  | [] => []
  | [x] => [x]
  | x :: y :: r => if x = y then cmpct (y :: r) else x :: cmpct (y :: r)

theorem cmpct_snoc (x y : Int) : ∀ a : List Int, cmpct (a ++ [x, y]) = if x = y then cmpct (a ++ [x]) else cmpct (a ++ [x]) ++ [y]
  | [] => by by_cases h : x = y <;> simp [cmpct, h]
  | [b] => by by_cases h : x = y <;> by_cases h2 : b = x <;> simp_all [cmpct]
  | b :: c :: a => by
    have ih := cmpct_snoc x y (c :: a)
    simp only [List.cons_append] at ih ⊢
    by_cases h2 : b = c
    · simp only [cmpct, h2, if_true]; exact ih
    · simp only [cmpct, h2, if_false]
      rw [ih]; by_cases h : x = y <;> simp [h]

theorem cmpct_take {l : List Int} {n : Nat} (h : n + 1 < l.length) : cmpct (l.take (n + 1 + 1)) = if l[n]'(by omega) = l[n + 1] then cmpct (l.take (n + 1)) else cmpct (l.take (n + 1)) ++ [l[n + 1]] := by
  have e1 : l.take (n + 1 + 1) = l.take n ++ [l[n]'(by omega), l[n + 1]] := by
    rw [take_succ' l (n + 1) h, take_succ' l n (by omega), List.append_assoc]; rfl
  have e2 : l.take (n + 1) = l.take n ++ [l[n]'(by omega)] := take_succ' l n (by omega)
  rw [e1, e2, cmpct_snoc]

theorem cmpct_length : ∀ l : List Int, (cmpct l).length ≤ l.length
  | [] => Nat.le_refl _
  | [x] => Nat.le_refl _
  | x :: y :: r => by
    have := cmpct_length (y :: r)
    unfold cmpct
    split
    · simp only [List.length_cons] at *; omega
    · simp only [List.length_cons] at *; omega

end Go.Proofs.Ytmjcfcbjccepnaa.Eng
