/-
  Rows of memory, read.
-/
import Derived.Test.YtmjcfcbjccepnaaE17
namespace Go.Proofs.Ytmjcfcbjccepnaa.Eng
open Go Go.RowKit
set_option linter.unusedSimpArgs false
set_option linter.unusedVariables false
set_option linter.unusedSectionVars false

variable {E : Env} {H H' H2 : AH}

/-- A slice whose elements' cells read so. -/
def Rd (E : Env) (H : AH) (k : Nat) (v : Value) (css : List (List Value)) : Prop :=
  ∃ (base : Option Addr) (cap : Nat), v = .slice base css.length cap ∧ ∀ i cs, css[i]? = some cs → ∃ a, base = some a ∧ ldc E H (a.add (i * k)) 0 k = some cs

theorem Rd.pre {k : Nat} {v : Value} {css : List (List Value)} (h : Rd E H k v css) (hp : Pre H H') : Rd E H' k v css := by
  obtain ⟨b, c, hv, hr⟩ := h
  exact ⟨b, c, hv, fun i cs hi => let ⟨a, ha, hl⟩ := hr i cs hi; ⟨a, ha, hp.ldc hl⟩⟩

def ie (k : IntKind) (x : Int) : List Value := [.int k x]
def RdI (E : Env) (H : AH) (k : IntKind) (v : Value) (l : List Int) : Prop := Rd E H 1 v (l.map (ie k))

theorem ldc_one {a : Addr} {v : Value} {i : Nat} : ldc E H a i 1 = some [v] ↔ ld E H (a.add i) = some v := by
  simp only [ldc]
  cases ld E H (a.add i) <;> simp

/-- What a slice of whole numbers tells. -/
theorem RdI.open {k : IntKind} {v : Value} {l : List Int} (h : RdI E H k v l) : ∃ (base : Option Addr) (cap : Nat), v = .slice base l.length cap ∧ ∀ i, (hi : i < l.length) → ∃ a, base = some a ∧ ld E H (a.add i) = some (.int k l[i]) := by
  obtain ⟨b, c, hv, hr⟩ := h
  refine ⟨b, c, by simpa using hv, fun i hi => ?_⟩
  obtain ⟨a, ha, hl⟩ := hr i [.int k l[i]] (by simp [hi, ie])
  refine ⟨a, ha, ?_⟩
  rw [ldc_one, Nat.mul_one] at hl
  rwa [addr_add_add, Nat.add_zero] at hl

/-- A slice of pairs of whole numbers. -/
def pe (p : Int × Int) : List Value := [.int .i64 p.1, .int .i64 p.2]
def RdP (E : Env) (H : AH) (v : Value) (l : List (Int × Int)) : Prop := Rd E H 2 v (l.map pe)
theorem RdP.open {v : Value} {l : List (Int × Int)} (h : RdP E H v l) : ∃ (base : Option Addr) (cap : Nat), v = .slice base l.length cap ∧ ∀ i, (hi : i < l.length) → ∃ a, base = some a ∧ ldc E H (a.add (i * 2)) 0 2 = some [.int .i64 l[i].1, .int .i64 l[i].2] := by
  obtain ⟨b, c, hv, hr⟩ := h
  exact ⟨b, c, by simpa using hv, fun i hi => hr i [.int .i64 l[i].1, .int .i64 l[i].2] (by simp [hi, pe])⟩
theorem ldc_two {a : Addr} {u v : Value} : ldc E H a 0 2 = some [u, v] ↔ ld E H (a.add 0) = some u ∧ ld E H (a.add 1) = some v := by
  simp only [ldc]
  cases ld E H (a.add 0) <;> cases ld E H (a.add (0 + 1)) <;> simp_all

theorem RdI.pre {k : IntKind} {v : Value} {l : List Int} (h : RdI E H k v l) (hp : Pre H H') : RdI E H' k v l := Rd.pre h hp
theorem RdP.pre {v : Value} {l : List (Int × Int)} (h : RdP E H v l) (hp : Pre H H') : RdP E H' v l := Rd.pre h hp

/-! ### Prefixes -/
theorem any_take_succ {α : Type} (l : List α) (p : α → Bool) (i : Nat) (h : i < l.length) : (l.take (i + 1)).any p = ((l.take i).any p || p l[i]) := by
  rw [List.take_add_one, List.any_append]; simp [h]
theorem any_of_get {α : Type} (l : List α) (p : α → Bool) (i : Nat) (h : i < l.length) (hp : p l[i] = true) : l.any p = true := List.any_eq_true.2 ⟨_, List.getElem_mem h, hp⟩
theorem any_take_all {α : Type} {l : List α} {p : α → Bool} {i : Nat} (h : l.length ≤ i) (hn : (l.take i).any p = false) : l.any p = false := by rwa [List.take_of_length_le h] at hn

end Go.Proofs.Ytmjcfcbjccepnaa.Eng
