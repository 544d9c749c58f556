/-
  What freeing blocks comes to: plain facts on lists.
-/
import Derived.Test.YtmjcfcbjccepnaaR13
namespace Go.Proofs.Ytmjcfcbjccepnaa.Eng
open Go Go.RowKit
set_option linter.unusedSimpArgs false
set_option linter.unusedVariables false

abbrev Pl := Int × Int

theorem mem_cmpct {x : Int} : ∀ {l : List Int}, x ∈ cmpct l ↔ x ∈ l
  | [] => Iff.rfl
  | [y] => Iff.rfl
  | y :: z :: r => by
    have ih := mem_cmpct (x := x) (l := z :: r)
    unfold cmpct
    split
    · rename_i h; rw [ih, h]; simp
    · rw [List.mem_cons, ih, List.mem_cons (a := x) (b := y)]
theorem mem_sorted {x : Int} {l : List Int} : x ∈ sorted l ↔ x ∈ l := List.mem_mergeSort

theorem eachS_mem {f : Pl → List Pl → Option Pl} : ∀ {l : List Pl} {ats : List (List Pl)} {m : List Pl}, eachS f l ats = some m → ∀ q ∈ m, ∃ p ∈ l, ∃ a, f p a = some q
  | [], ats, m, h, q, hq => by simp [eachS] at h; subst h; simp at hq
  | p :: l, [], m, h, q, hq => by simp [eachS] at h; subst h; simp at hq
  | p :: l, a :: ats, m, h, q, hq => by
    simp only [eachS] at h
    cases h1 : f p a with
    | none => simp [h1] at h
    | some q1 =>
      cases h2 : eachS f l ats with
      | none => simp [h1, h2] at h
      | some r =>
        simp [h1, h2] at h
        subst h
        rcases List.mem_cons.1 hq with rfl | hq
        · exact ⟨p, by simp, a, h1⟩
        · obtain ⟨p', hp', a', h'⟩ := eachS_mem h2 q hq
          exact ⟨p', List.mem_cons_of_mem _ hp', a', h'⟩
theorem eachS_len {f : Pl → List Pl → Option Pl} : ∀ {l : List Pl} {ats : List (List Pl)} {m : List Pl}, eachS f l ats = some m → l.length = ats.length → m.length = l.length
  | [], ats, m, h, _ => by simp [eachS] at h; subst h; rfl
  | p :: l, [], m, h, hl => by simp at hl
  | p :: l, a :: ats, m, h, hl => by
    simp only [eachS] at h
    cases h1 : f p a with
    | none => simp [h1] at h
    | some q1 =>
      cases h2 : eachS f l ats with
      | none => simp [h1, h2] at h
      | some r =>
        simp [h1, h2] at h
        subst h
        simp [eachS_len h2 (by simpa using hl)]

theorem othersS_sub {ats : List (List Pl)} {l : List Pl} {bad : List Int} {b : Int} {l' : List Pl} (h : othersS ats l bad b = some l') : ∀ q ∈ l', q.1 ≠ b ∧ ∃ p ∈ l, p.1 = q.1 := by
  intro q hq
  obtain ⟨p, hp, a, hf⟩ := eachS_mem h q hq
  unfold oneS at hf
  split at hf
  · rename_i hb
    simp at hf; subst hf
    exact ⟨by simpa using hb, p, hp, rfl⟩
  · have := List.find?_some hf
    unfold okB at this
    simp only [Bool.and_eq_true] at this
    obtain ⟨⟨h1, h2⟩, _⟩ := this
    obtain ⟨p', hp', e⟩ := List.any_eq_true.1 h1
    exact ⟨by simpa using h2, p', hp', by simpa using e⟩

theorem shrinkS_some {ats : List (List Pl)} {l : List Pl} {bad : List Int} {l' : List Pl} (h : shrinkS ats l bad = some l') : ∃ b ∈ l.map Prod.fst, bad.any (fun y => y == b) = false ∧ othersS ats l bad b = some l' := by
  unfold shrinkS at h
  obtain ⟨b, hb, hf⟩ := List.exists_of_findSome?_eq_some h
  rw [mem_cmpct, mem_sorted] at hb
  unfold shrinkF at hf
  split at hf
  · cases hf
  · rename_i hn
    exact ⟨b, hb, by cases h2 : bad.any (fun y => y == b) with | true => exact absurd h2 hn | false => rfl, hf⟩
theorem shrinkS_length {ats : List (List Pl)} {l : List Pl} {bad : List Int} {l' : List Pl} (h : shrinkS ats l bad = some l') (hl : l.length = ats.length) : l'.length = l.length := by
  obtain ⟨b, _, _, h⟩ := shrinkS_some h
  exact eachS_len h hl
theorem shrinkS_ne {ats : List (List Pl)} {l : List Pl} {bad : List Int} {l' : List Pl} (h : shrinkS ats l bad = some l') : l ≠ [] := by
  rintro rfl
  obtain ⟨b, hb, _⟩ := shrinkS_some h
  simp at hb

theorem runS_succ {ats : List (List Pl)} {bad : List Int} {l' : List Pl} : ∀ {n : Nat} {l : List Pl}, shrinkS ats (runS ats bad n l) bad = some l' → runS ats bad (n + 1) l = l'
  | 0, l, h => by simp only [runS] at h ⊢; rw [h]
  | n + 1, l, h => by
    have e : ∀ m, runS ats bad (m + 1) l = (match shrinkS ats l bad with | none => l | some l' => runS ats bad m l') := fun m => rfl
    rw [e] at h ⊢
    cases hs : shrinkS ats l bad with
    | none => rw [hs] at h; simp only at h; rw [hs] at h; cases h
    | some l1 => rw [hs] at h; exact runS_succ h

theorem runS_sub {ats : List (List Pl)} {bad : List Int} : ∀ {n : Nat} {l : List Pl}, ∀ q ∈ runS ats bad n l, ∃ p ∈ l, p.1 = q.1
  | 0, l, q, hq => ⟨q, hq, rfl⟩
  | n + 1, l, q, hq => by
    have e : runS ats bad (n + 1) l = (match shrinkS ats l bad with | none => l | some l' => runS ats bad n l') := rfl
    rw [e] at hq
    cases hs : shrinkS ats l bad with
    | none => rw [hs] at hq; exact ⟨q, hq, rfl⟩
    | some l1 =>
      rw [hs] at hq
      obtain ⟨p, hp, h1⟩ := runS_sub q hq
      obtain ⟨b, _, _, ho⟩ := shrinkS_some hs
      obtain ⟨_, p', hp', h2⟩ := othersS_sub ho p hp
      exact ⟨p', hp', h2.trans h1⟩

theorem countP_lt {α : Type} {p q : α → Bool} : ∀ {U : List α} (h : ∀ x ∈ U, p x = true → q x = true) {y : α} (hy : y ∈ U) (h1 : q y = true) (h2 : p y = false), U.countP p < U.countP q
  | x :: U, h, y, hy, h1, h2 => by
    have hle : U.countP p ≤ U.countP q := List.countP_mono_left fun x hx => h x (List.mem_cons_of_mem _ hx)
    rw [List.countP_cons, List.countP_cons]
    rcases List.mem_cons.1 hy with rfl | hy
    · simp [h1, h2]; omega
    · have := countP_lt (fun x hx => h x (List.mem_cons_of_mem _ hx)) hy h1 h2
      have h3 : (if p x = true then 1 else 0) ≤ (if q x = true then 1 else 0) := by
        by_cases hp : p x = true
        · rw [if_pos hp, if_pos (h x (by simp) hp)]; exact Nat.le_refl _
        · rw [if_neg hp]; exact Nat.zero_le _
      omega

/-- How many of U's blocks are used. -/
def muS (U l : List Pl) : Nat := (U.map Prod.fst).countP fun x => l.any fun p => p.1 == x
theorem muS_lt {ats : List (List Pl)} {bad : List Int} {n : Nat} {U l l' : List Pl} (hrun : l = runS ats bad n U) (h : shrinkS ats l bad = some l') : muS U l' < muS U l := by
  obtain ⟨b, hb, _, ho⟩ := shrinkS_some h
  obtain ⟨p, hp, rfl⟩ := List.mem_map.1 hb
  obtain ⟨u, hu, hup⟩ := runS_sub p (by rw [← hrun]; exact hp)
  refine countP_lt (y := p.1) (fun x _ hx => ?_) (List.mem_map.2 ⟨u, hu, hup⟩) (List.any_eq_true.2 ⟨p, hp, by simp⟩) ?_
  · obtain ⟨q, hq, e⟩ := List.any_eq_true.1 hx
    obtain ⟨_, p', hp', e'⟩ := othersS_sub ho q hq
    exact List.any_eq_true.2 ⟨p', hp', by rw [e']; exact e⟩
  · rw [List.any_eq_false]
    intro q hq e
    exact (othersS_sub ho q hq).1 (by simpa using e)

end Go.Proofs.Ytmjcfcbjccepnaa.Eng
