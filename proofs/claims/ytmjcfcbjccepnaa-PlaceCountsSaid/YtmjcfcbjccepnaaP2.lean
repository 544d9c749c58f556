/-
  Used blocks: sorted and made unlike, or laid in one by one: the same.
-/
import Derived.Test.YtmjcfcbjccepnaaR15
namespace Go.Proofs.Ytmjcfcbjccepnaa.Eng
open Go Go.RowKit
set_option linter.unusedSimpArgs false
set_option linter.unusedVariables false

theorem pw_ext : ∀ {a b : List Int}, a.Pairwise (· < ·) → b.Pairwise (· < ·) → (∀ x, x ∈ a ↔ x ∈ b) → a = b
  | [], [], _, _, _ => rfl
  | [], y :: b, _, _, h => by have := (h y).2 (by simp); simp at this
  | x :: a, [], _, _, h => by have := (h x).1 (by simp); simp at this
  | x :: a, y :: b, ha, hb, h => by
    rw [List.pairwise_cons] at ha hb
    have e : x = y := by
      have h1 := (h x).1 (by simp)
      have h2 := (h y).2 (by simp)
      rcases List.mem_cons.1 h1 with h1 | h1
      · exact h1
      · rcases List.mem_cons.1 h2 with h2 | h2
        · exact h2.symm
        · have := hb.1 x h1; have := ha.1 y h2; omega
    subst e
    have : a = b := pw_ext ha.2 hb.2 fun z => by
      constructor
      · intro hz
        have := ha.1 z hz
        rcases List.mem_cons.1 ((h z).1 (List.mem_cons_of_mem _ hz)) with e | h'
        · omega
        · exact h'
      · intro hz
        have := hb.1 z hz
        rcases List.mem_cons.1 ((h z).2 (List.mem_cons_of_mem _ hz)) with e | h'
        · omega
        · exact h'
    rw [this]

theorem cmpct_pw : ∀ {l : List Int}, l.Pairwise (· ≤ ·) → (cmpct l).Pairwise (· < ·)
  | [], _ => List.Pairwise.nil
  | [x], _ => by simp [cmpct]
  | x :: y :: r, h => by
    have h2 : (y :: r).Pairwise (· ≤ ·) := (List.pairwise_cons.1 h).2
    have ih := cmpct_pw h2
    unfold cmpct
    split
    · exact ih
    · rename_i hne
      refine List.pairwise_cons.2 ⟨fun z hz => ?_, ih⟩
      rw [mem_cmpct] at hz
      have h1 := (List.pairwise_cons.1 h).1
      have hxy := h1 y (by simp)
      rcases List.mem_cons.1 hz with rfl | hz
      · omega
      · have := (List.pairwise_cons.1 h2).1 z hz; omega
theorem sorted_pw (l : List Int) : (sorted l).Pairwise (· ≤ ·) := by
  have := List.pairwise_mergeSort (le := fun x y : Int => decide (x ≤ y)) (fun a b c h1 h2 => by simp at *; omega) (fun a b => by simp; omega) l
  exact this.imp fun h => by simpa using h

theorem mem_insB {b x : Int} : ∀ {l : List Int}, x ∈ insB b l ↔ x = b ∨ x ∈ l
  | [] => by simp [insB]
  | y :: r => by
    unfold insB
    split
    · rw [List.mem_cons, mem_insB, List.mem_cons]
      constructor
      · rintro (h | h | h) <;> simp [h]
      · rintro (h | h | h) <;> simp [h]
    · split
      · rename_i h; rw [List.mem_cons]; constructor
        · intro h2; exact .inr h2
        · rintro (h2 | h2)
          · exact .inl (by omega)
          · exact h2
      · rw [List.mem_cons]
theorem insB_pw {b : Int} : ∀ {l : List Int}, l.Pairwise (· < ·) → (insB b l).Pairwise (· < ·)
  | [], _ => by simp [insB]
  | y :: r, h => by
    obtain ⟨h1, h2⟩ := List.pairwise_cons.1 h
    unfold insB
    split
    · rename_i hlt
      refine List.pairwise_cons.2 ⟨fun z hz => ?_, insB_pw h2⟩
      rcases mem_insB.1 hz with rfl | hz
      · exact hlt
      · exact h1 z hz
    · split
      · exact h
      · rename_i hlt hne
        refine List.pairwise_cons.2 ⟨fun z hz => ?_, h⟩
        rcases List.mem_cons.1 hz with rfl | hz
        · omega
        · have := h1 z hz; omega

theorem foldB : ∀ (bs : List Int) (out : List Int), out.Pairwise (· < ·) → (bs.foldl (fun out b => insB b out) out).Pairwise (· < ·) ∧ ∀ x, x ∈ bs.foldl (fun out b => insB b out) out ↔ x ∈ out ∨ x ∈ bs
  | [], out, h => ⟨h, fun x => by simp⟩
  | b :: bs, out, h => by
    obtain ⟨h1, h2⟩ := foldB bs (insB b out) (insB_pw h)
    refine ⟨h1, fun x => ?_⟩
    rw [List.foldl_cons, h2, mem_insB, List.mem_cons]
    constructor
    · rintro ((h | h) | h) <;> simp [h]
    · rintro (h | h | h) <;> simp [h]

theorem used_eq (l : List (Int × Int)) : cmpct (sorted (l.map Prod.fst)) = blocksS l := by
  obtain ⟨h1, h2⟩ := foldB (l.map Prod.fst) [] List.Pairwise.nil
  refine pw_ext (cmpct_pw (sorted_pw _)) h1 fun x => ?_
  rw [mem_cmpct, mem_sorted]
  exact ((h2 x).trans (by simp)).symm

theorem shrinkS_eq (ats : List (List (Int × Int))) (l : List (Int × Int)) (bad : List Int) : shrinkS ats l bad = (blocksS l).findSome? (shrinkF ats l bad) := by unfold shrinkS; rw [used_eq]

/-- Two ends of freeing are one. -/
theorem runS_end {ats : List (List (Int × Int))} {bad : List Int} : ∀ {n m : Nat} {l : List (Int × Int)}, shrinkS ats (runS ats bad n l) bad = none → shrinkS ats (runS ats bad m l) bad = none → runS ats bad n l = runS ats bad m l
  | 0, 0, l, _, _ => rfl
  | 0, m + 1, l, h, _ => by
    simp only [runS] at h ⊢
    rw [h]
  | n + 1, 0, l, _, h => by
    simp only [runS] at h ⊢
    rw [h]
  | n + 1, m + 1, l, h1, h2 => by
    have e : ∀ m, runS ats bad (m + 1) l = (match shrinkS ats l bad with | none => l | some l' => runS ats bad m l') := fun m => rfl
    rw [e] at h1 h2 ⊢
    rw [e]
    cases hs : shrinkS ats l bad with
    | none => rfl
    | some l' =>
      rw [hs] at h1 h2
      exact runS_end h1 h2

end Go.Proofs.Ytmjcfcbjccepnaa.Eng
