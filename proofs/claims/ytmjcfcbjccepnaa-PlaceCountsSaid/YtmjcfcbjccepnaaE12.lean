/-
  What a region that draws its order comes to, continued: the agreement of orders.
-/
import Derived.Test.YtmjcfcbjccepnaaE11
namespace Go.Proofs.Ytmjcfcbjccepnaa.Eng
open Go Go.RowKit
set_option linter.unusedSimpArgs false
set_option linter.unusedVariables false
set_option linter.unusedSectionVars false

variable {E : Env} {H H' H2 : AH} {φ φ' φ'' : Rep} {w w' w'' : World}

/-! ### What is read alone decides a quiet operation -/
/-- Two memories agree on some old blocks' objects. -/
def Agree (M : Nat) (H H' : AH) (bs : List Nat) : Prop := ∀ r, r < H.length → M + r ∈ bs → H'[r]? = H[r]?

theorem ld_agree {a : Addr} {v : Value} (h : ld E H a = some v) (hg : ∀ r, r < H.length → E.M + r = a.block → H'[r]? = H[r]?) : ld E H' a = some v := by
  unfold ld at h ⊢
  by_cases h1 : a.block < E.M
  · rw [if_pos h1] at h ⊢; exact h
  · rw [if_neg h1] at h ⊢
    split at h
    · cases h
    · rename_i h2
      rw [if_neg h2]
      cases hH : H[a.block - E.M]? with
      | none => simp [hH] at h
      | some o =>
        have hlt : a.block - E.M < H.length := (List.getElem?_eq_some_iff.1 hH).1
        rw [hg _ hlt (by omega)]
        exact h

theorem addr_add_block (a : Addr) (n : Nat) : (a.add n).block = a.block := by unfold Addr.add; split <;> rfl

theorem ldc_agree {a : Addr} (hg : ∀ r, r < H.length → E.M + r = a.block → H'[r]? = H[r]?) : ∀ (n i : Nat) (vs : List Value), ldc E H a i n = some vs → ldc E H' a i n = some vs
  | 0, i, vs, h => h
  | n + 1, i, vs, h => by
    simp only [ldc] at h ⊢
    cases h1 : ld E H (a.add i) with
    | none => simp [h1] at h
    | some x =>
      cases h2 : ldc E H a (i + 1) n with
      | none => simp [h1, h2] at h
      | some r =>
        rw [ld_agree h1 (fun r hr hb => hg r hr (by rw [hb, addr_add_block])), ldc_agree hg n (i + 1) r h2]
        simpa [h1, h2] using h

theorem ldVar_agree {a : Addr} {t : TypeId} {v : Value} (hg : ∀ r, r < H.length → E.M + r = a.block → H'[r]? = H[r]?) (h : ldVar E H t a = some v) : ldVar E H' t a = some v := by
  unfold ldVar at h ⊢
  cases h1 : isAggT E t with
  | none => simp [h1] at h
  | some g =>
    simp only [h1, Option.bind_some] at h ⊢
    cases g with
    | false => simp at h ⊢; exact ld_agree h hg
    | true =>
      simp only [if_true] at h ⊢
      cases h2 : sizeT E t with
      | none => simp [h2] at h
      | some n =>
        simp only [h2, Option.bind_some] at h ⊢
        obtain ⟨cs, h3, h4⟩ := map_some h
        rw [ldc_agree hg n 0 cs h3]
        simpa using h4

theorem mapAt_agree {r : Nat} {p : List (Value × Value) × Bool} (hg : ∀ q, q < H.length → E.M + q = r → H'[q]? = H[q]?) (h : mapAt E H r = some p) : mapAt E H' r = some p := by
  unfold mapAt at h ⊢
  by_cases h1 : r < E.M
  · rw [if_pos h1] at h; cases h
  · rw [if_neg h1] at h ⊢
    cases hH : H[r - E.M]? with
    | none => simp [hH] at h
    | some o =>
      have hlt : r - E.M < H.length := (List.getElem?_eq_some_iff.1 hH).1
      rw [hg _ hlt (by omega)]
      exact h

theorem quiet_same {o : Op} {ρ : Operand → Value} {v : Value} (hq : isQuiet o = true) (h : evOp E o ρ H = some (v, H2)) : H2 = H := by
  unfold isQuiet at hq
  split at hq <;> first | (cases hq; done) | skip
  all_goals simp only [evOp, evBuiltin] at h
  all_goals first
    | (cases h; rfl)
    | (obtain ⟨_, _, h2⟩ := map_some h; cases h2; rfl)
    | (split at h <;> first | (cases h; done) | (cases h; rfl) | (obtain ⟨_, _, h2⟩ := map_some h; cases h2; rfl))

theorem quiet_agree {o : Op} {ρ : Operand → Value} {v : Value} (hq : isQuiet o = true) (hg : Agree E.M H H' (readsOf o ρ)) (h : evOp E o ρ H = some (v, H)) : evOp E o ρ H' = some (v, H') := by
  unfold isQuiet at hq
  split at hq <;> first | (cases hq; done) | skip
  case h_5 t a =>
    simp only [evOp] at h ⊢
    unfold readsOf Agree at hg
    split at h
    · rename_i ad ha
      simp only [ha] at hg
      obtain ⟨u, hu, h2⟩ := map_some h
      rw [ldVar_agree (fun r hr hb => hg r hr (by simp [hb])) hu]
      cases h2; rfl
    · cases h
  case h_11 t x lo hi mx =>
    simp only [evOp] at h ⊢
    obtain ⟨u, hu, h2⟩ := map_some h
    cases h2
    have hw : ∀ (size : Nat) (base : Option Addr) (n c : Nat), ρ x = .slice base n c → widthAt E H size base = true → widthAt E H' size base = true := by
      intro size base n c hx hw
      unfold readsOf Agree at hg
      cases base with
      | none => rfl
      | some a =>
        simp only [hx] at hg
        unfold widthAt at hw ⊢
        simp only at hw ⊢
        by_cases h1 : a.block < E.M
        · rw [if_pos h1]
        · rw [if_neg h1] at hw ⊢
          cases hH : H[a.block - E.M]? with
          | none => simp [hH] at hw
          | some o =>
            have hlt : a.block - E.M < H.length := (List.getElem?_eq_some_iff.1 hH).1
            rw [hg _ hlt (by simp; omega)]
            exact hw
    have : evSlice E t (ρ x) (lo.map ρ) (hi.map ρ) (mx.map ρ) H' = some v := by
      rw [← hu]
      unfold evSlice at hu ⊢
      split
      · rfl
      · rename_i e base n cap hu2 hxx
        simp only [hu2, hxx] at hu
        cases hs : sizeT E e with
        | none => rfl
        | some size =>
          simp only [hs, Option.bind_some] at hu ⊢
          cases hwd : widthAt E H size base with
          | false => simp [hwd] at hu
          | true => rw [hw size base n cap hxx hwd]
      · rfl
    rw [this]; rfl
  case h_16 t m i ok =>
    simp only [evOp] at h ⊢
    obtain ⟨u, hu, h2⟩ := map_some h
    cases h2
    unfold readsOf Agree at hg
    have : evLookup E t (ρ m) (ρ i) ok H' = some v := by
      rw [← hu]
      unfold evLookup at hu ⊢
      split
      · rename_i kt et hut
        simp only [hut] at hu
        cases h1 : plainKey E kt with
        | none => rfl
        | some d =>
          cases h2 : zeroT E et with
          | none => rfl
          | some z =>
            simp only [h1, h2, Option.bind_some] at hu ⊢
            cases h3 : entriesOf E H (ρ m) with
            | none => simp [h3] at hu
            | some es =>
              have : entriesOf E H' (ρ m) = some es := by
                unfold entriesOf at h3 ⊢
                split at h3
                · rename_i hm; exact h3
                · rename_i r hm
                  simp only [hm] at hg
                  obtain ⟨p, hp, hp2⟩ := map_some h3
                  rw [mapAt_agree (fun q hq hb => hg q hq (by simp [hb])) hp]
                  exact congrArg some hp2
                · cases h3
              rw [this]
      · rfl
    rw [this]; rfl
  case h_19 args tys =>
    simp only [evOp, evBuiltin] at h ⊢
    obtain ⟨u, hu, h2⟩ := map_some h
    cases h2
    unfold readsOf Agree at hg
    have : evLen E tys (args.toList.map ρ) H' = some v := by
      unfold evLen at hu ⊢
      split at hu
      · rename_i t x h0 hargs
        split at hu
        · exact hu
        · exact hu
        · exact hu
        · exact hu
        · rename_i k e r hut
          obtain ⟨p, hp, hp2⟩ := map_some hu
          have hmem : E.M ≤ r → r ∈ args.toList.filterMap (fun x => match ρ x with | .map (some r) => some r | _ => none) := by
            intro _
            obtain ⟨y, hy, hy2⟩ : ∃ y, y ∈ args.toList ∧ ρ y = .map (some r) := by
              have : Value.map (some r) ∈ args.toList.map ρ := by rw [hargs]; simp
              obtain ⟨y, hy, hy2⟩ := List.mem_map.1 this
              exact ⟨y, hy, hy2⟩
            exact List.mem_filterMap.2 ⟨y, hy, by rw [hy2]⟩
          rw [mapAt_agree (fun q hq hb => hg q hq (by rw [hb]; exact hmem (by omega))) hp]
          exact congrArg some hp2
        · cases hu
      · cases hu
    rw [this]; rfl
  all_goals simp only [evOp, evBuiltin] at h ⊢
  all_goals first
    | (cases h; rfl)
    | (obtain ⟨_, h1, h2⟩ := map_some h; cases h2; rw [h1]; rfl)
    | (split at h <;> first | (cases h; done) | (cases h; rfl) | (obtain ⟨_, h1, h2⟩ := map_some h; cases h2; rw [h1]; rfl))

/-- What an operation turns, it names. -/
theorem turns_agree {o : Op} {ρ : Operand → Value} {v : Value} {l : List Nat} (ht : turnsOf o ρ = some l) (h : evOp E o ρ H = some (v, H2)) : H.length ≤ H2.length ∧ ∀ r, r < H.length → E.M + r ∉ l → H2[r]? = H[r]? := by
  have push : ∀ x : AObj, H.length ≤ (newA E H x).2.length ∧ ∀ r, r < H.length → (newA E H x).2[r]? = H[r]? := fun x => ⟨by simp [newA], fun r hr => List.getElem?_append_left hr⟩
  have stay : H.length ≤ H.length ∧ ∀ r, r < H.length → H[r]? = H[r]? := ⟨Nat.le_refl _, fun _ _ => rfl⟩
  unfold turnsOf at ht
  split at ht
  case h_1 e =>
    cases ht; simp only [evOp] at h
    cases hz : zeroT E e with
    | none => simp [hz] at h
    | some z =>
      cases hs : sizeT E e with
      | none => simp [hz, hs] at h
      | some n => simp [hz, hs] at h; obtain ⟨_, rfl⟩ := h; exact ⟨(push _).1, fun r hr _ => (push _).2 r hr⟩
  case h_2 e x =>
    cases ht; simp only [evOp] at h
    cases hs : sizeT E e with
    | none => simp [hs] at h
    | some n => simp [hs] at h; obtain ⟨_, rfl⟩ := h; exact ⟨(push _).1, fun r hr _ => (push _).2 r hr⟩
  case h_3 t n ps =>
    cases ht; simp only [evOp] at h
    unfold evBuildSlice at h
    split at h
    · rename_i e hu
      cases hs : sizeT E e with
      | none => simp [hs] at h
      | some size =>
        cases hz : zeroT E e with
        | none => simp [hs, hz] at h
        | some z =>
          simp only [hs, hz, Option.bind_some] at h
          split at h
          · cases h
          · obtain ⟨cs, _, h2⟩ := map_some h
            cases h2
            exact ⟨(push _).1, fun r hr _ => (push _).2 r hr⟩
    · cases h
  case h_4 t l c =>
    cases ht; simp only [evOp] at h
    unfold evMakeSlice at h
    split at h
    · rename_i e kl l kc c hu _ _
      cases hs : sizeT E e with
      | none => simp [hs] at h
      | some size =>
        cases hb : bytesT E e with
        | none => simp [hs, hb] at h
        | some by_ =>
          cases hz : zeroT E e with
          | none => simp [hs, hb, hz] at h
          | some z =>
            simp only [hs, hb, hz, Option.bind_some] at h
            split at h
            · cases h
            · cases h; exact ⟨(push _).1, fun r hr _ => (push _).2 r hr⟩
    · cases h
  case h_5 t r =>
    cases ht
    cases r with
    | none => simp only [evOp] at h; cases h; exact ⟨(push _).1, fun r hr _ => (push _).2 r hr⟩
    | some x => simp [evOp] at h
  case h_6 s d x =>
    cases ht; simp only [evOp] at h
    unfold evConvert at h
    split at h
    · cases h; exact ⟨Nat.le_refl _, fun _ _ _ => rfl⟩
    · cases h; exact ⟨Nat.le_refl _, fun _ _ _ => rfl⟩
    · split at h
      · split at h
        · cases h; exact ⟨(push _).1, fun r hr _ => (push _).2 r hr⟩
        · cases h
      · cases h
    · rename_i e base n c _ _ _
      split at h
      · cases base with
        | none => cases h; exact ⟨Nat.le_refl _, fun _ _ _ => rfl⟩
        | some a =>
          simp only at h
          cases h1 : ldc E H a 0 n with
          | none => simp [h1] at h
          | some cs =>
            simp only [h1, Option.bind_some] at h
            obtain ⟨_, _, h2⟩ := map_some h
            cases h2; exact ⟨Nat.le_refl _, fun _ _ _ => rfl⟩
      · cases h
    · cases h
  case h_7 args tys =>
    simp only [evOp, evBuiltin] at h
    unfold evAppend at h
    split at h
    · rename_i sT xT base n cap x h0 h1 hargs
      rw [hargs] at ht
      split at h
      · rename_i elem hu
        split at h
        · cases hs : sizeT E elem with
          | none => simp [hs] at h
          | some size =>
            cases hb : bytesT E elem with
            | none => simp [hs, hb] at h
            | some by_ =>
              cases hz : zeroT E elem with
              | none => simp [hs, hb, hz] at h
              | some z =>
                cases hm : lenOfV x with
                | none => simp [hs, hb, hz, hm] at h
                | some m =>
                  cases hf : firstCellsA E H size m x with
                  | none => simp [hs, hb, hz, hm, hf] at h
                  | some new =>
                    simp only [hs, hb, hz, hm, hf, Option.bind_some] at h
                    split at h
                    · cases h
                    · unfold appendA at h
                      split at h
                      · split at h
                        · cases h
                        · split at h
                          · cases h; exact ⟨Nat.le_refl _, fun _ _ _ => rfl⟩
                          · cases h; exact ⟨(push _).1, fun r hr _ => (push _).2 r hr⟩
                      · rename_i a
                        simp only [Option.some.injEq] at ht
                        subst ht
                        split at h
                        · cases h
                        · split at h
                          · cases h; exact ⟨Nat.le_refl _, fun _ _ _ => rfl⟩
                          · split at h
                            · split at h
                              · cases h
                              · rename_i c k hrow
                                split at h
                                · cases h
                                · cases h
                                  refine ⟨by simp [newA, kill], fun r hr hn => ?_⟩
                                  show (kill E H a.block ++ _)[r]? = _
                                  rw [List.getElem?_append_left (by simpa [kill] using hr)]
                                  unfold kill
                                  rw [set_get, if_neg]
                                  intro e
                                  unfold rowAt at hrow
                                  split at hrow
                                  · cases hrow
                                  · rename_i hold
                                    have : E.M ≤ a.block := Nat.le_of_not_lt fun q => hold (.inl q)
                                    exact hn (by simp; omega)
                            · split at h
                              · obtain ⟨H1, h2, h3⟩ := map_some h
                                cases h3
                                unfold stc at h2
                                split at h2
                                · cases h2
                                · rename_i hold
                                  rw [addr_add_block] at h2 hold
                                  split at h2
                                  · split at h2
                                    · cases h2
                                      refine ⟨by simp, fun r hr hn => ?_⟩
                                      rw [set_get, if_neg]
                                      intro e
                                      have : E.M ≤ a.block := Nat.le_of_not_lt fun q => hold (.inl q)
                                      exact hn (by simp; omega)
                                    · cases h2
                                  · cases h2
                              · obtain ⟨_, _, h3⟩ := map_some h
                                cases h3; exact ⟨(push _).1, fun r hr _ => (push _).2 r hr⟩
        · cases h
      · cases h
    · cases h
  case h_8 => cases ht

end Go.Proofs.Ytmjcfcbjccepnaa.Eng
