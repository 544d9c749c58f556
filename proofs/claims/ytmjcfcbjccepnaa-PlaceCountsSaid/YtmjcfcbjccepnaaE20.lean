/-
  slices.Sort on whole numbers, as a function that is not walked.
-/
import Derived.Test.YtmjcfcbjccepnaaE19
namespace Go.Proofs.Ytmjcfcbjccepnaa.Eng
open Go Go.RowKit
set_option linter.unusedSimpArgs false
set_option linter.unusedVariables false
set_option linter.unusedSectionVars false

variable {E : Env} {H H' H0 H1 H2 : AH}

def intOf (k : IntKind) : Value → Option Int
  | .int k' n => if k' = k then some n else none
  | _ => none
def sorted (l : List Int) : List Int := l.mergeSort fun x y => decide (x ≤ y)

/-- slices.Sort: nothing of a row of none; a row of an own object, sorted. -/
def sortX (k : IntKind) (M : Nat) : List Value → AH → Option (Value × AH)
  | [.slice none 0 _], H => some (.tuple #[], H)
  | [.slice (some ⟨b, o, none⟩) n _], H =>
    if M ≤ b then match H[b - M]? with
      | some (.cells cs 1 true) => if o + n ≤ cs.length ∧ n < 4611686018427387904 then (((cs.drop o).take n).mapM (intOf k)).map fun zs => (.tuple #[], H.set (b - M) (.cells (overwrite cs o ((sorted zs).map (Value.int k))) 1 true)) else none
      | _ => none
    else none
  | _, _ => none

theorem mapM_intOf (k : IntKind) (l : List Int) : (l.map (Value.int k)).mapM (intOf k) = some l := by
  induction l with
  | nil => rfl
  | cons x l ih => rw [List.map_cons, List.mapM_cons, ih]; simp [intOf]

theorem flat_ie (k : IntKind) (l : List Int) : (l.map (ie k)).flatten = l.map (Value.int k) := by
  induction l with
  | nil => rfl
  | cons x l ih => rw [List.map_cons, List.flatten_cons, ih]; rfl

theorem sorted_length (l : List Int) : (sorted l).length = l.length := List.length_mergeSort l

theorem sort_bld {k : IntKind} {v : Value} {l : List Int} (h : Bld E H0 H 1 v (l.map (ie k))) (hv : l = [] → v = .slice none 0 0) (hp : Pre H0 H) (hn : l.length < 4611686018427387904) :
    ∃ H2, sortX k E.M [v] H = some (.tuple #[], H2) ∧ Bld E H0 H2 1 v ((sorted l).map (ie k)) ∧ Pre H0 H2 ∧ Rest E v H H2 := by
  by_cases hl : l = []
  · have := hv hl
    subst this hl
    refine ⟨H, rfl, ?_, hp, fun q o hq _ => hq⟩
    simp [sorted]
    exact Bld.nil
  · obtain ⟨hc, ⟨h0, _⟩ | ⟨r, tail, rfl, hr, hr0⟩⟩ := h
    · exact absurd (by simpa using h0) hl
    · rw [flat_ie] at hr
      refine ⟨H.set r (.cells ((sorted l).map (Value.int k) ++ tail) 1 true), ?_, ⟨?_, .inr ⟨r, tail, by simp [sorted_length], ?_, hr0⟩⟩, hp.set hr0, ?_⟩
      · unfold sortX
        simp only []
        rw [if_pos (by omega)]
        simp only [Nat.add_sub_cancel_left, hr]
        rw [if_pos ⟨by simp, by simpa using hn⟩]
        have ht : (List.map (Value.int k) l ++ tail).take (l.map (ie k)).length = List.map (Value.int k) l := by
          rw [List.take_append_of_le_length (by simp)]; exact List.take_of_length_le (by simp)
        rw [List.drop_zero, ht, mapM_intOf]
        have hd : List.drop l.length (List.map (Value.int k) l) = [] := List.drop_eq_nil_iff.2 (by simp)
        simp [overwrite, sorted_length, hd]
      · intro cs hcs; obtain ⟨x, _, rfl⟩ := List.mem_map.1 hcs; rfl
      · rw [flat_ie]
        have hrl : r < H.length := (List.getElem?_eq_some_iff.1 hr).1
        simp [hrl]
      · intro q o hq hne
        have hqr : r ≠ q := by rintro rfl; exact hne _ _ _ rfl
        rw [List.getElem?_set_ne hqr]
        exact hq

end Go.Proofs.Ytmjcfcbjccepnaa.Eng
