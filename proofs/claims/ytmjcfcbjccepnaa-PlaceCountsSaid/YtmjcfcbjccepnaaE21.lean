/-
  Maps from whole numbers, told as lists of pairs.
-/
import Derived.Test.YtmjcfcbjccepnaaE20
namespace Go.Proofs.Ytmjcfcbjccepnaa.Eng
open Go Go.RowKit
set_option linter.unusedSimpArgs false
set_option linter.unusedVariables false
set_option linter.unusedSectionVars false

variable {E : Env} {H H' : AH} {β : Type}

/-- A map's entries. -/
def mapE (k : IntKind) (f : β → Value) (m : List (Int × β)) : List (Value × Value) := m.map fun p => (.int k p.1, f p.2)
/-- What a key has. -/
def lookL : List (Int × β) → Int → Option β
  | [], _ => none
  | p :: m, b => if p.1 = b then some p.2 else lookL m b
/-- A key's new value. -/
def putL : List (Int × β) → Int → β → List (Int × β)
  | [], b, x => [(b, x)]
  | p :: m, b, x => if p.1 = b then (b, x) :: m else p :: putL m b x

theorem lookL_putL (m : List (Int × β)) (a b : Int) (x : β) : lookL (putL m a x) b = if a = b then some x else lookL m b := by
  induction m with
  | nil => simp [putL, lookL]
  | cons p m ih =>
    unfold putL
    by_cases h : p.1 = a
    · rw [if_pos h]
      simp only [lookL]
      by_cases h2 : a = b
      · simp [h2]
      · rw [if_neg h2, if_neg h2, if_neg (by omega)]
    · rw [if_neg h]
      simp only [lookL, ih]
      by_cases h2 : p.1 = b
      · rw [if_pos h2, if_neg (by omega)]
        simp [h2]
      · simp [h2]

theorem findE_mapE (k : IntKind) (f : β → Value) (b : Int) : ∀ (m : List (Int × β)) (i : Nat), (∃ j p, findE (.int k) (.int k b) (mapE k f m) i = some (some (i + j)) ∧ m[j]? = some p ∧ lookL m b = some p.2 ∧ ∀ x, putL m b x = m.set j (b, x)) ∨ (findE (.int k) (.int k b) (mapE k f m) i = some none ∧ lookL m b = none ∧ ∀ x, putL m b x = m ++ [(b, x)])
  | [], i => .inr ⟨rfl, rfl, fun _ => rfl⟩
  | p :: m, i => by
    have hs : Instr.sameNow (.int k) (.int k b) (.int k p.1) = some (b == p.1) := by simp [Instr.sameNow]
    by_cases h : p.1 = b
    · refine .inl ⟨0, p, ?_, rfl, ?_, fun x => ?_⟩
      · simp [mapE, findE, Instr.sameNow, h]
      · simp [lookL, h]
      · simp [putL, h]
    · have hb : (b == p.1) = false := by simp; exact fun e => h e.symm
      rcases findE_mapE k f b m (i + 1) with ⟨j, q, h1, h2, h3, h4⟩ | ⟨h1, h2, h3⟩
      · refine .inl ⟨j + 1, q, ?_, by simpa using h2, by simp [lookL, h, h3], fun x => by simp [putL, h, h4]⟩
        simp only [mapE] at h1
        simp only [mapE, List.map_cons, findE, hs, hb, Option.bind_some, Bool.false_eq_true, if_false, h1]
        congr 2; omega
      · refine .inr ⟨?_, by simp [lookL, h, h2], fun x => by simp [putL, h, h3]⟩
        simp only [mapE] at h1
        simp only [mapE, List.map_cons, findE, hs, hb, Option.bind_some, Bool.false_eq_true, if_false, h1]

theorem lookup_map {t kt et : TypeId} {k : IntKind} {f : β → Value} {m : List (Int × β)} {z : β} {q : Nat} {own : Bool} {b : Int} (hu : E.P.underlying t = some (.map kt et)) (hk : plainKey E kt = some (.int k)) (hz : zeroT E et = some (f z)) (hq : H[q]? = some (.map (mapE k f m) own)) :
    evLookup E t (.map (some (E.M + q))) (.int k b) false H = some (f ((lookL m b).getD z)) := by
  have he : entriesOf E H (.map (some (E.M + q))) = some (mapE k f m) := by simp [entriesOf, mapAt, hq]
  simp only [evLookup, hu, hk, hz, Option.bind_some, he]
  rcases findE_mapE k f b m 0 with ⟨j, p, h1, h2, h3, _⟩ | ⟨h1, h2, _⟩
  · have : (mapE k f m)[j]? = some (.int k p.1, f p.2) := by simp [mapE, h2]
    rw [h1, h3]
    simp [this]
  · rw [h1, h2]; simp

theorem update_map {t kt et : TypeId} {k : IntKind} {f : β → Value} {m : List (Int × β)} {x : β} {q : Nat} {b : Int} (hu : E.P.underlying t = some (.map kt et)) (hk : plainKey E kt = some (.int k)) (hq : H[q]? = some (.map (mapE k f m) true)) :
    evMapUpdate E t (.map (some (E.M + q))) (.int k b) (f x) H = some (H.set q (.map (mapE k f (putL m b x)) true)) := by
  have he : mapAt E H (E.M + q) = some (mapE k f m, true) := by simp [mapAt, hq]
  simp only [evMapUpdate, hu, hk, Option.bind_some, he]
  rcases findE_mapE k f b m 0 with ⟨j, p, h1, h2, _, h4⟩ | ⟨h1, _, h3⟩
  · rw [h1, h4]
    simp [mapE]
  · rw [h1, h3]
    simp [mapE]

end Go.Proofs.Ytmjcfcbjccepnaa.Eng
