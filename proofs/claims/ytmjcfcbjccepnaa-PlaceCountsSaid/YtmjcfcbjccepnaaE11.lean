/-
  What a region that draws its order comes to: what holds of the plan's order holds of every order.
-/
import Derived.Test.YtmjcfcbjccepnaaE10
namespace Go.Proofs.Ytmjcfcbjccepnaa.Eng
open Go Go.RowKit
set_option linter.unusedSimpArgs false
set_option linter.unusedVariables false
set_option linter.unusedSectionVars false

variable {E : Env} {H H' H2 : AH} {φ φ' φ'' : Rep} {w w' w'' : World}

/-! ### Locked memory -/
theorem lock_length (H : AH) : (lock H).length = H.length := by simp [lock]
theorem lock_get (H : AH) (r : Nat) : (lock H)[r]? = H[r]?.map lockO := by simp [lock]
theorem lockO_own (o : AObj) : (lockO o).own = false := by cases o <;> rfl
theorem lockO_live {o : AObj} (h : (lockO o).live = true) : o.live = true := by cases o <;> simp_all [lockO, AObj.live]

theorem Rel.lock (h : Rel E H φ w) : Rel E (lock H) φ w where
  obj r o hr := by
    rw [lock_get] at hr
    cases hH : H[r]? with
    | none => simp [hH] at hr
    | some o0 =>
      simp [hH] at hr; subst hr
      have := h.obj r o0 hH
      cases o0 with
      | cells c k own => exact this
      | map es own => exact this
      | siter s pos => trivial
      | miter m l => trivial
      | dead => trivial
  inj r r' o o' ri ri' h1 h2 hne hown := by
    rw [lock_get] at h1
    cases hH : H[r]? with
    | none => simp [hH] at h1
    | some o0 => simp [hH] at h1; subst h1; rw [lockO_own] at hown; cases hown
  below := h.below
  fresh r hr := h.fresh r (by rwa [lock_length] at hr)

theorem drop_get (H : AH) (n r : Nat) : (H.drop n)[r]? = H[n + r]? := by rw [List.getElem?_drop]

/-- What a call that could turn nothing has left. -/
theorem Out.unlock (h : Rel E H φ w) (ho : Out E (lock H) H2 φ φ' w w') : Out E H (H ++ H2.drop H.length) φ φ' w w' := by
  have hl : H.length ≤ H2.length := by have := ho.len; rwa [lock_length] at this
  have hlen : (H ++ H2.drop H.length).length = H2.length := by simp; omega
  have hlo : ∀ r, r < H.length → (H ++ H2.drop H.length)[r]? = H[r]? := fun r hr => List.getElem?_append_left hr
  have hhi : ∀ r, ¬ r < H.length → (H ++ H2.drop H.length)[r]? = H2[r]? := fun r hr => by
    rw [List.getElem?_append_right (by omega), List.getElem?_drop]; congr 1; omega
  have hnone : ∀ b : Nat, ∀ r o ri, (lock H)[r]? = some o → o.own = true → φ r = some ri → ri.blk ≠ b := by
    intro b r o ri h1 h2
    rw [lock_get] at h1
    cases hH : H[r]? with
    | none => simp [hH] at h1
    | some o0 => simp [hH] at h1; subst h1; rw [lockO_own] at h2; cases h2
  have hkeep : ∀ b, b < w.heap.size → w'.heap[b]? = w.heap[b]? := fun b hb => ho.frame b hb (hnone b)
  have hdom : ∀ r, r < H.length → φ' r = φ r := fun r hr => ho.dom r (by rwa [lock_length])
  have hx : Ext φ φ' := ho.ext h.lock
  have hnew : ∀ r o ri, ¬ r < H.length → H2[r]? = some o → o.live = true → φ' r = some ri → w.heap.size ≤ ri.blk := by
    intro r o ri h1 h2 h3 h4
    rcases ho.newblk r o ri (by rw [lock_length]; omega) h2 h3 h4 with h5 | ⟨r0, o0, ri0, h5, h6, h7, _⟩
    · exact h5
    · exact absurd rfl (hnone ri0.blk r0 o0 ri0 h5 h6 h7)
  refine ⟨hdom, by omega, ⟨?_, ?_, ho.rel.below, ?_⟩, ho.size, fun b hb _ => hkeep b hb, ?_, ?_, ?_⟩
  · intro r o hr
    by_cases hc : r < H.length
    · rw [hlo r hc] at hr
      cases hv : o.live with
      | false => cases o <;> simp [AObj.live] at hv; trivial
      | true =>
        refine (h.obj r o hr).mono hx (fun ri hri => hkeep _ ?_)
        obtain ⟨ri1, g1, _, g3⟩ := (h.obj r o hr).blk hv
        rw [Option.some.inj (hri.symm.trans g1)]; exact g3
    · rw [hhi r hc] at hr; exact ho.rel.obj r o hr
  · intro r1 r2 o1 o2 ri1 ri2 h1 h2 hne hown hlive hφ1 hφ2
    by_cases hc1 : r1 < H.length
    · rw [hlo r1 hc1] at h1
      rw [hdom r1 hc1] at hφ1
      by_cases hc2 : r2 < H.length
      · rw [hlo r2 hc2] at h2
        rw [hdom r2 hc2] at hφ2
        exact h.inj r1 r2 o1 o2 ri1 ri2 h1 h2 hne hown hlive hφ1 hφ2
      · rw [hhi r2 hc2] at h2
        obtain ⟨ri3, g1, _, g3⟩ := (h.obj r1 o1 h1).blk (AObj.own_live hown)
        have e1 : ri1 = ri3 := Option.some.inj (hφ1.symm.trans g1)
        have := hnew r2 o2 ri2 hc2 h2 hlive hφ2
        rw [e1]; omega
    · rw [hhi r1 hc1] at h1
      have g := hnew r1 o1 ri1 hc1 h1 (AObj.own_live hown) hφ1
      by_cases hc2 : r2 < H.length
      · rw [hlo r2 hc2] at h2
        rw [hdom r2 hc2] at hφ2
        obtain ⟨ri3, g1, _, g3⟩ := (h.obj r2 o2 h2).blk hlive
        have e1 : ri2 = ri3 := Option.some.inj (hφ2.symm.trans g1)
        rw [e1]; omega
      · rw [hhi r2 hc2] at h2
        exact ho.rel.inj r1 r2 o1 o2 ri1 ri2 h1 h2 hne hown hlive hφ1 hφ2
  · intro r hr; exact ho.rel.fresh r (by omega)
  · intro r o ri h1 h2 h3 h4
    rw [hhi r (by omega)] at h2
    exact .inl (hnew r o ri (by omega) h2 h3 h4)
  · intro r o' h1 h2 h3
    rw [hlo r h1] at h2; exact ⟨o', h2, h3⟩
  · intro r o' h1 h2 h3
    rw [hlo r h1] at h2; exact ⟨o', h2, h3⟩

end Go.Proofs.Ytmjcfcbjccepnaa.Eng
