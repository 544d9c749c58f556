/-
  The abstract sort is sound, where the real one has its contract.
-/
import Derived.Test.YtmjcfcbjccepnaaE24
import Derived.Sort.Grow
import Derived.Sort.Row
namespace Go.Proofs.Ytmjcfcbjccepnaa.Eng
open Go Go.RowKit Go.Sort
set_option linter.unusedSimpArgs false
set_option linter.unusedVariables false
set_option linter.unusedSectionVars false

variable {E : Env} {H H' : AH} {φ φ' : Rep} {w w' : World}

theorem Out.grow (h : Out E H H' φ φ' w w') (os : Array Obj) : Out E H H' φ φ' w (Sort.grow w' os) := by
  have hsz : (Sort.grow w' os).heap.size = w'.heap.size + os.size := by simp [Sort.grow]
  have hold : ∀ b, b < w'.heap.size → (Sort.grow w' os).heap[b]? = w'.heap[b]? := fun b hb => by
    show (w'.heap ++ os)[b]? = _
    rw [Array.getElem?_append_left hb]
  refine ⟨h.dom, h.len, ⟨?_, h.rel.inj, ?_, h.rel.fresh⟩, by have := h.size; omega, fun b hb hn => ?_, h.newblk, h.ownm, h.livem⟩
  · intro r o hr
    cases hl : o.live with
    | false => cases o <;> simp [AObj.live] at hl; trivial
    | true =>
      obtain ⟨ri, h1, _, h3⟩ := (h.rel.obj r o hr).blk hl
      refine (h.rel.obj r o hr).mono (Ext.refl _) (fun ri1 hri => hold _ ?_)
      obtain rfl : ri = ri1 := Option.some.inj (h1.symm.trans hri)
      exact h3
  · exact h.rel.below.trans ⟨rfl, rfl, rfl, by omega, fun k hk => hold k (by have := h.rel.below.size; omega)⟩
  · rw [hold b (by have := h.size; omega)]; exact h.frame b hb hn

theorem mapM_intOf_inv {k : IntKind} : ∀ {l : List Value} {zs : List Int}, l.mapM (intOf k) = some zs → l = zs.map (Value.int k)
  | [], zs, h => by simp at h; subst h; rfl
  | v :: l, zs, h => by
    rw [List.mapM_cons] at h
    cases h1 : intOf k v with
    | none => simp [h1] at h
    | some z =>
      cases h2 : l.mapM (intOf k) with
      | none => simp [h1, h2] at h
      | some r =>
        simp [h1, h2] at h
        subst h
        rw [List.map_cons, ← mapM_intOf_inv h2]
        unfold intOf at h1
        split at h1
        · split at h1
          · rename_i e; cases h1; rw [e]
          · cases h1
        · cases h1

/-- The contract of the real sort. -/
def SortSpec (E : Env) (k : IntKind) (f : FuncId) : Prop :=
  (∀ a w, (callFunc f a).run E.P w = .ok (.enter f a) w) ∧
  (∀ (p : Option Addr) (cap : Nat) (w : World), Calls E.P f #[.slice p 0 cap] w fun e w' => e = .returned (.tuple #[]) ∧ w' = w) ∧
  (∀ (blk off cap : Nat) (zs : List Int) (w : World), Holds (Value.int k) w blk off zs.toArray → blk < w.heap.size → zs.length < 4611686018427387904 →
    Calls E.P f #[.slice (some ⟨blk, off, none⟩) zs.length cap] w fun e w' => e = .returned (.tuple #[]) ∧ ∃ n os, w' = Sort.grow (putRow (Value.int k) (Sort.ahead w n) blk off (zs.mergeSort fun x y => decide (x ≤ y)).toArray) os)

theorem putCells_over {k : IntKind} {cs : Array Value} {off : Nat} {S : List Int} (h : off + S.length ≤ cs.size) : putCells (Value.int k) off S.toArray cs = overA cs off (S.map (Value.int k)) := by
  apply Array.toList_inj.1
  apply List.ext_getElem?
  intro i
  unfold overA putCells
  rw [overwrite_get _ _ _ _ (by simpa using h)]
  simp only [Array.getElem?_toList, Array.getElem?_mapIdx, List.length_map]
  by_cases h1 : i < off
  · rw [if_pos h1]
    cases hc : cs[i]? with
    | none => rfl
    | some x => simp; omega
  · rw [if_neg h1]
    by_cases h2 : i < off + S.length
    · rw [if_pos h2]
      have hi : i < cs.size := by omega
      have hj : i - off < S.length := by omega
      simp [hi, hj]
      intro h3; exact absurd (h3 (by omega)) (by omega)
    · rw [if_neg h2]
      cases hc : cs[i]? with
      | none => rfl
      | some x => simp; omega

theorem sort_sound {k : IntKind} {f : FuncId} (hS : SortSpec E k f) {args args' : List Value} {v : Value} (hg : sortX k E.M args H = some (v, H')) (h : Rel E H φ w) (hvs : VRs E.M φ args args') :
    Calls E.P f args'.toArray w fun e w' => ∃ v' φ', e = .returned v' ∧ VR E.M φ' v v' ∧ Out E H H' φ φ' w w' := by
  obtain ⟨_, hS0, hS1⟩ := hS
  have key : ∀ (b o n cap : Nat), sortX k E.M [.slice (some ⟨b, o, none⟩) n cap] H = some (v, H') → ∀ v1, VR E.M φ (.slice (some ⟨b, o, none⟩) n cap) v1 → Calls E.P f #[v1] w fun e w' => ∃ v' φ', e = .returned v' ∧ VR E.M φ' v v' ∧ Out E H H' φ φ' w w' := by
    intro b o n cap hg v1 hv1
    unfold sortX at hg
    simp only at hg
    split at hg
    · rename_i hMb
      split at hg
      · rename_i cs hr
        split at hg
        · rename_i hlen
          cases hz : ((cs.drop o).take n).mapM (intOf k) with
          | none => rw [hz] at hg; cases hg
          | some zs =>
            rw [hz] at hg
            simp only [Option.map_some, Option.some.injEq, Prod.mk.injEq] at hg
            obtain ⟨rfl, rfl⟩ := hg
            have hzs := mapM_intOf_inv hz
            have hzl : zs.length = n := by
              have := congrArg List.length hzs
              simp at this; omega
            have hsl : (sorted zs).length = n := by rw [sorted_length, hzl]
            cases hv1 with
            | sliceOld _ _ _ ho => simp only at ho; omega
            | sliceEmp r off a c hc =>
              refine (hS0 (some a) 0 w).mono ?_
              rintro e w' ⟨rfl, rfl⟩
              refine ⟨_, φ, rfl, .tuple _ _ .nil, ?_⟩
              have h0 : zs = [] := List.length_eq_zero_iff.1 hzl
              have hst : sorted zs = [] := by rw [h0]; simp [sorted]
              rw [hst, List.map_nil, overwrite_nil]
              have : H.set (E.M + r - E.M) (.cells cs 1 true) = H := by
                obtain ⟨hh, he⟩ := List.getElem?_eq_some_iff.1 hr
                rw [← he]; exact List.set_getElem_self hh
              rw [this]; exact Out.refl h
            | sliceNew r _ _ _ c' ri hφ hc hn hb =>
              rw [show E.M + r - E.M = r by omega] at hr ⊢
              obtain ⟨ri', csw, ty, fz, h1, h2, h3, h4, h5, h6, h7, h8⟩ := h.obj r _ hr
              obtain rfl : ri = ri' := Option.some.inj (hφ.symm.trans h1)
              have hlt : ri.blk < w.heap.size := (Array.getElem?_eq_some_iff.1 h3).1
              have hsz : ri.base + o + n ≤ csw.size := by omega
              have hH : Holds (Value.int k) w ri.blk (ri.base + o) zs.toArray := by
                intro j hj
                have hj : j < zs.length := by simpa using hj
                have hget : cs[o + j]? = some (.int k zs[j]) := by
                  have := congrArg (fun z => z[j]?) hzs
                  simp only [List.getElem?_take, List.getElem?_drop, List.getElem?_map] at this
                  rw [if_pos (by omega)] at this
                  rw [this]; simp [hj]
                obtain ⟨u, hu, hvr⟩ := h8.get _ _ hget
                rw [List.getElem?_take, if_pos (by omega), List.getElem?_drop] at hu
                cases hvr
                refine ⟨?_, ?_⟩
                · simp only [World.cell?, h3]
                  simp only [Option.isSome_none, Bool.false_eq_true, if_false]
                  rw [← Array.getElem?_toList, show ri.base + o + j = ri.base + (o + j) by omega, hu]
                  simp [hj]
                · simp only [World.frozen?, h3]
                  have := h7 (ri.base + o + j) (by omega)
                  cases hd : (decide (fz.1 ≤ ri.base + o + j) && decide (ri.base + o + j < fz.2)) with
                  | false => rfl
                  | true => simp at hd; exact absurd hd this
              have hc := hS1 ri.blk (ri.base + o) c' zs w hH hlt (by omega)
              rw [hzl] at hc
              refine hc.mono ?_
              rintro e w' ⟨rfl, n', os, rfl⟩
              refine ⟨_, φ, rfl, .tuple _ _ .nil, ?_⟩
              refine Out.grow ?_ os
              have hr1 : Rel E H φ (Sort.ahead w n') := h.heap rfl rfl rfl rfl
              have he : putRow (Value.int k) (Sort.ahead w n') ri.blk (ri.base + o) (zs.mergeSort fun x y => decide (x ≤ y)).toArray = setBlk (Sort.ahead w n') ri.blk (.cells (overA csw (ri.base + o) ((sorted zs).map (Value.int k))) ty fz) := by
                rw [← putCells_over (k := k) (S := sorted zs) (by omega)]
                unfold putRow mapBlock setBlk
                congr 1
                apply Array.ext_getElem?
                intro i
                rw [Array.getElem?_modify, Array.getElem?_setIfInBounds]
                show (if ri.blk = i then (w.heap[i]?).map _ else w.heap[i]?) = _
                by_cases hi : ri.blk = i
                · subst hi
                  rw [if_pos rfl, if_pos rfl, h3, if_pos (show ri.blk < (Sort.ahead w n').heap.size from hlt)]
                  rfl
                · rw [if_neg hi, if_neg hi]; rfl
              rw [he]
              have hov : ((overA csw (ri.base + o) ((sorted zs).map (Value.int k))).toList.drop ri.base).take cs.length = overwrite ((csw.toList.drop ri.base).take cs.length) o ((sorted zs).map (Value.int k)) := by
                apply List.ext_getElem?
                intro i
                by_cases hi : i < cs.length
                · rw [List.getElem?_take, if_pos hi, List.getElem?_drop]
                  unfold overA
                  rw [overwrite_get _ _ _ _ (by simp; omega), overwrite_get _ _ _ _ (by simp; omega)]
                  rw [List.getElem?_take, if_pos hi, List.getElem?_drop]
                  by_cases h9 : i < o
                  · rw [if_pos (by omega), if_pos h9]
                  · rw [if_neg (by omega), if_neg h9]
                    by_cases h10 : i < o + ((sorted zs).map (Value.int k)).length
                    · rw [if_pos (by omega), if_pos h10]; congr 1; omega
                    · rw [if_neg (by omega), if_neg h10]
                · rw [List.getElem?_eq_none (by simp; omega), List.getElem?_eq_none (by rw [overwrite_length _ _ _ (by simp; omega)]; simp; omega)]
              have hlv : ((sorted zs).map (Value.int k)).length = n := by rw [List.length_map, hsl]
              have hosz : (overA csw (ri.base + o) ((sorted zs).map (Value.int k))).size = csw.size := by
                unfold overA; simp only [List.size_toArray]; rw [overwrite_length _ _ _ (by simp; omega)]; simp
              have hup := Out.upd hr1 (o' := .cells (overwrite cs o ((sorted zs).map (Value.int k))) 1 true) (O := .cells (overA csw (ri.base + o) ((sorted zs).map (Value.int k))) ty fz) hr rfl hφ ?_
              · exact ⟨hup.dom, hup.len, hup.rel, hup.size, hup.frame, hup.newblk, hup.ownm, hup.livem⟩
              · refine ⟨ri, _, ty, fz, hφ, h2, setBlk_get hlt, by rw [hosz]; exact h4, by rw [overwrite_length _ _ _ (by omega)]; exact h5, h6, by rw [hosz]; exact h7, ?_⟩
                rw [overwrite_length _ _ _ (by omega), hov]
                refine h8.overwrite (VRs.of_get rfl fun i u u' hu hu' => ?_) o
                rw [hu] at hu'; cases hu'
                rw [List.getElem?_map] at hu
                cases hz2 : (sorted zs)[i]? with
                | none => rw [hz2] at hu; cases hu
                | some z => rw [hz2] at hu; cases hu; exact .int k z
        · cases hg
      · cases hg
    · cases hg
  cases hvs with
  | nil => simp [sortX] at hg
  | cons x y xs ys hx hs =>
    cases hs with
    | cons x2 y2 xs2 ys2 _ _ => 
      cases x <;> simp [sortX] at hg
    | nil =>
      cases x with
      | slice base n cap =>
        cases base with
        | some a =>
          obtain ⟨b, o, s⟩ := a
          cases s with
          | none => exact key b o n cap hg y hx
          | some s => simp [sortX] at hg
        | none =>
          cases n with
          | succ n => simp [sortX] at hg
          | zero =>
            simp only [sortX, Option.some.injEq, Prod.mk.injEq] at hg
            obtain ⟨rfl, rfl⟩ := hg
            cases hx
            refine (hS0 none cap w).mono ?_
            rintro e w' ⟨rfl, rfl⟩
            exact ⟨_, φ, rfl, .tuple _ _ .nil, Out.refl h⟩
      | _ => simp [sortX] at hg

end Go.Proofs.Ytmjcfcbjccepnaa.Eng
