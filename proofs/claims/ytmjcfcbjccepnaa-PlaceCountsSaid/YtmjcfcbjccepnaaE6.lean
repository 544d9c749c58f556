/-
  append, copy, clear, conversions, maps, and what answers by looking alone.
-/
import Derived.Test.YtmjcfcbjccepnaaE5
import Derived.MapKept
import Derived.Lib.ConvBytes
namespace Go.Proofs.Ytmjcfcbjccepnaa.Eng
open Go Go.RowKit
set_option linter.unusedSimpArgs false
set_option linter.unusedVariables false
set_option linter.unusedSectionVars false

variable {E : Env} {H H' : AH} {φ φ' : Rep} {w w' : World}

theorem ldc_length {a : Addr} : ∀ (n i : Nat) (vs : List Value), ldc E H a i n = some vs → vs.length = n
  | 0, i, vs, h => by simp [ldc] at h; subst h; rfl
  | n + 1, i, vs, h => by
    simp only [ldc] at h
    cases h1 : ld E H (a.add i) with
    | none => simp [h1] at h
    | some x =>
      cases h2 : ldc E H a (i + 1) n with
      | none => simp [h1, h2] at h
      | some r => simp [h1, h2] at h; subst h; simp [ldc_length n (i + 1) r h2]

theorem ldc_zero {a : Addr} (i : Nat) : ldc E H a i 0 = some [] := rfl

theorem cell_heap {w w1 : World} (h : w1.heap = w.heap) (a : Addr) : w1.cell? a = w.cell? a := by simp [World.cell?, h]

theorem loadCells_sound (hE : EnvOk E) (h : Rel E H φ w) {a a' : Addr} (ha : AR E.M φ a a') {n : Nat} {cs : List Value} (hv : ldc E H a 0 n = some cs) :
    ∃ cs', VRs E.M φ cs cs' ∧ ∀ w1 : World, w1.heap = w.heap → (loadCells a' n).run E.P w1 = .ok cs'.toArray w1 := by
  obtain ⟨vs', hl, hr, hc⟩ := ldc_sound hE h ha n 0 cs hv
  refine ⟨vs', hr, fun w1 hw => ?_⟩
  rw [← hl]
  exact run_loadCells_list w1 a' vs' (fun j v hj => by rw [cell_heap hw]; simpa using hc j v hj)

theorem firstCells_sound (hE : EnvOk E) (h : Rel E H φ w) {x x' : Value} (hx : VR E.M φ x x') {size n : Nat} {cs : List Value} (hv : firstCellsA E H size n x = some cs) (hn : ∀ a k c, x = .slice (some a) k c → n ≤ k) :
    ∃ cs', VRs E.M φ cs cs' ∧ ∀ w1 : World, w1.heap = w.heap → (Builtin.firstCells size n x').run E.P w1 = .ok cs'.toArray w1 := by
  unfold firstCellsA at hv
  split at hv
  · rename_i a k c
    rcases VR.sliceForm hx with ⟨h0, _⟩ | ⟨a1, h1, ho, rfl⟩ | ⟨r, off, c', ri, h1, rfl, hφ, _, _, _⟩ | ⟨r, off, a1, h1, rfl, hk, _⟩
    · cases h0
    · cases h1; exact loadCells_sound hE h (.old a ho) hv
    · cases h1; exact loadCells_sound hE h (.new r off ri hφ) hv
    · have : n = 0 := by have := hn _ _ _ rfl; omega
      subst this
      simp only [Nat.zero_mul, ldc_zero, Option.some.injEq] at hv
      subst hv
      exact ⟨[], .nil, fun w1 _ => by simp [Builtin.firstCells, loadCells, loadCellsFrom]⟩
  · cases hv
    cases hx
    exact ⟨[], .nil, fun w1 _ => by simp [Builtin.firstCells]⟩
  · cases hv
    cases hx
    refine ⟨_, VRs.map (fun b => .int _ _) _, fun w1 _ => ?_⟩
    simp only [Builtin.firstCells, Sem.run_pure]
    congr 1
    apply Array.ext'
    simp [u8v]
  · cases hv

theorem lenOf_sound {x x' : Value} (hx : VR E.M φ x x') {m : Nat} (h : lenOfV x = some m) (w : World) : (Builtin.lenOf x').run E.P w = .ok m w := by
  unfold lenOfV at h
  split at h
  · cases h
    rcases VR.sliceForm hx with ⟨_, rfl⟩ | ⟨a1, h1, ho, rfl⟩ | ⟨r, off, c', ri, h1, rfl, hφ, _, _, _⟩ | ⟨r, off, a1, h1, rfl, hk, _⟩
    · simp [Builtin.lenOf]
    · simp [Builtin.lenOf]
    · simp [Builtin.lenOf]
    · subst hk; simp [Builtin.lenOf]
  · cases h; cases hx; simp [Builtin.lenOf]
  · cases h

theorem notInt_ne {d : Option TypeDesc} (h : notInt d = true) : ∃ x, d = some x ∧ (match x with | .int _ => true | _ => false) = false := by
  cases d with
  | none => simp [notInt] at h
  | some x => refine ⟨x, rfl, ?_⟩; cases x <;> simp_all [notInt]

/-- There is room. -/
theorem run_append_fit {sT xT ty elem : TypeId} {size n c m : Nat} {x : Value} {new : List Value} {w w1 : World} {base : Option Addr} (hu : E.P.underlying sT = some (.slice elem)) (hxu : notInt (E.P.underlying xT) = true)
    (hs : sizeT E elem = some size) (hm : (Builtin.lenOf x).run E.P w = .ok m w) (hf : (Builtin.firstCells size m x).run E.P w = .ok new.toArray w) (hroom : n + m ≤ c)
    (hst : match base with | some a => (storeCells (a.add (n * size)) new 0).run E.P w = .ok () w1 | none => w1 = w) :
    (Builtin.append_ #[sT, xT] ty #[.slice base n c, x]).run E.P w = .ok (.slice base (n + m) c) w1 := by
  obtain ⟨d, hd, hni⟩ := notInt_ne hxu
  have hz : ∀ w : World, (do pure ((← underlying xT) matches .int _) : Sem Bool).run E.P w = .ok false w := by
    intro w
    simp only [Sem.run_bind, run_underlying hd, Result.andThen_ok, Sem.run_pure]
    congr 1
  cases base with
  | none =>
    subst hst
    simp [Builtin.append_, run_underlying hu, run_underlying hd, run_size_some hs, hm, hroom, hf, hni]
    cases d <;> simp_all
  | some a =>
    simp only at hst
    simp [Builtin.append_, run_underlying hu, run_underlying hd, run_size_some hs, hm, hroom, hf, hni]
    cases d <;> simp_all

theorem run_append_grown {sT xT ty elem : TypeId} {size n c m by_ : Nat} {x z : Value} {old new : List Value} {w : World} {base : Option Addr} (hu : E.P.underlying sT = some (.slice elem)) (hxu : notInt (E.P.underlying xT) = true)
    (hs : sizeT E elem = some size) (hb : bytesT E elem = some by_) (hz : zeroT E elem = some z) (hm : ∀ w, (Builtin.lenOf x).run E.P w = .ok m w) (hf : ∀ w1 : World, w1.heap = w.heap → (Builtin.firstCells size m x).run E.P w1 = .ok new.toArray w1)
    (ho : ∀ w1 : World, w1.heap = w.heap → (Builtin.firstCells size n (.slice base n c)).run E.P w1 = .ok old.toArray w1) (hroom : ¬ n + m ≤ c) (h63 : n + m ≤ 9223372036854775807) (hby : (n + m) * by_ ≤ 140737488355328) :
    (Builtin.append_ #[sT, xT] ty #[.slice base n c, x]).run E.P w = .ok (.slice (some ⟨w.heap.size, 0, none⟩) (n + m) (grownCap w (n + m) c elem))
      (w.drew.alloc (.cells (old ++ new ++ (Builtin.zeroCells z.cells (grownCap w (n + m) c elem - (n + m))).toList).toArray elem)) := by
  obtain ⟨d, hd, hni⟩ := notInt_ne hxu
  obtain ⟨ie, hie, hib⟩ := bytes_info hb
  have h48 : ¬ (281474976710656 < Builtin.nextslicecap (n + m) c * ie.bytes) := by
    have := growslice_fits (need := n + m) (old := c) (bytes := by_) (by omega) hby
    rw [hib]; omega
  have h63' : ¬ (9223372036854775807 < ((n : Int) + (m : Int))) := by omega
  have hti : ∀ w, (typeInfo elem).run E.P w = .ok ie w := fun w => by simp [typeInfo, hie]
  have hf' := hf w.drew rfl
  have ho' := ho w.drew rfl
  rw [show (old ++ new ++ (Builtin.zeroCells z.cells (grownCap w (n + m) c elem - (n + m))).toList).toArray = old.toArray ++ (new.toArray ++ Builtin.zeroCells z.cells (grownCap w (n + m) c elem - (n + m))) from by apply Array.ext'; simp]
  simp [Builtin.append_, run_underlying hu, run_underlying hd, run_size_some hs, hm, hroom, hni, hti, h63', h48, Question.forced, hf', ho', newRow, run_zero_some hz, grownCap]
  cases d <;> simp_all

theorem zeroCells_length (z : Array Value) (n : Nat) : (Builtin.zeroCells z n).toList.length = n * z.size := by simp [Builtin.zeroCells]

theorem Rel.drew (h : Rel E H φ w) : Rel E H φ w.drew := h.heap rfl rfl rfl rfl

/-- A row that is laid behind a draw: what it begins with is told. -/
theorem grown_out (h : Rel E H φ w) {c c' rest : List Value} (hc : VRs E.M φ c c') (k : Nat) (ty : TypeId) :
    Out E H (newA E H (.cells c k true)).2 φ (repUpd φ H.length ⟨w.heap.size, 0, (c' ++ rest).length, k⟩) w (w.drew.alloc (.cells (c' ++ rest).toArray ty)) := by
  have hl := hc.length
  have h1 := Out.row h.drew (c := c) (cs := c' ++ rest) (by rw [hl, List.take_left]; exact hc) (by simp; omega) k ty true (0, 0) (NoFz.zero _)
  exact ⟨h1.dom, h1.len, h1.rel, h1.size, h1.frame, h1.newblk, h1.ownm, h1.livem⟩

theorem rowAt_new (h : Rel E H φ w) {a : Addr} {c : List Value} {k : Nat} (hr : rowAt E H a = some (c, k)) : ∃ r off ri cs ty fz, a = ⟨E.M + r, off, none⟩ ∧ H[r]? = some (.cells c k true) ∧ φ r = some ri ∧ E.w0.heap.size ≤ ri.blk ∧
    w.heap[ri.blk]? = some (.cells cs ty fz) ∧ cs.size = ri.base + ri.row ∧ c.length ≤ ri.row ∧ ri.k = k ∧ NoFz fz cs.size ∧ VRs E.M φ c ((cs.toList.drop ri.base).take c.length) := by
  unfold rowAt at hr
  split at hr
  · cases hr
  · rename_i hold
    have h1 : E.M ≤ a.block := Nat.le_of_not_lt fun x => hold (.inl x)
    have h2 : a.spot = none := by
      cases hs : a.spot with
      | none => rfl
      | some x => exact absurd (.inr (by rw [hs]; rfl)) hold
    split at hr
    · rename_i c1 k1 hH
      cases hr
      obtain ⟨ri, cs, ty, fz, g1, g2, g3, g4, g5, g6, g7, g8⟩ := h.obj _ _ hH
      refine ⟨a.block - E.M, a.off, ri, cs, ty, fz, ?_, hH, g1, g2, g3, g4, g5, g6, g7, g8⟩
      obtain ⟨b, o, s⟩ := a
      simp only at h1 h2 ⊢
      subst h2
      rw [show E.M + (b - E.M) = b by omega]
    · cases hr

theorem append_sound (hE : EnvOk E) (h : Rel E H φ w) {argTypes : Array TypeId} {ty : TypeId} {args : List Value} {args' : Array Value} {v : Value} (ha : VRs E.M φ args args'.toList) (hv : evAppend E argTypes args H = some (v, H')) :
    ∃ v' w' φ', (Builtin.append_ argTypes ty args').run E.P w = .ok v' w' ∧ VR E.M φ' v v' ∧ Out E H H' φ φ' w w' := by
  unfold evAppend at hv
  split at hv
  · rename_i sT xT base n cap x h0 h1
    obtain ⟨args'⟩ := args'
    cases ha with | cons _ s' _ r1 hs' hr1 =>
    cases hr1 with | cons _ x' _ r2 hx' hr2 =>
    cases hr2
    -- only the first two types are looked at
    have hat : ∀ (s x : Value) (w : World), (Builtin.append_ argTypes ty #[s, x]).run E.P w = (Builtin.append_ #[sT, xT] ty #[s, x]).run E.P w := by
      intro s x w
      unfold Builtin.append_
      simp [h0, h1]
    rw [hat]
    clear hat
    split at hv
    · rename_i elem hu
      split at hv
      · rename_i hni
        cases hsz : sizeT E elem with
        | none => simp [hsz] at hv
        | some size =>
          cases hb : bytesT E elem with
          | none => simp [hsz, hb] at hv
          | some by_ =>
            cases hz : zeroT E elem with
            | none => simp [hsz, hb, hz] at hv
            | some z =>
              cases hm : lenOfV x with
              | none => simp [hsz, hb, hz, hm] at hv
              | some m =>
                cases hf : firstCellsA E H size m x with
                | none => simp [hsz, hb, hz, hm, hf] at hv
                | some new =>
                  simp only [hsz, hb, hz, hm, hf, Option.bind_some] at hv
                  split at hv
                  · cases hv
                  · rename_i hbd
                    have b1 : (n + m) * by_ ≤ 140737488355328 := Nat.le_of_not_lt fun q => hbd (.inl q)
                    have b2 : n + m ≤ 9223372036854775807 := Nat.le_of_not_lt fun q => hbd (.inr (.inl q))
                    have b3 : z.cells.size = size := Classical.not_not.1 fun q => hbd (.inr (.inr (.inl q)))
                    have b4 : new.length = m * size := Classical.not_not.1 fun q => hbd (.inr (.inr (.inr q)))
                    clear hbd
                    have hlen := fun w => lenOf_sound (E := E) (φ := φ) hx' hm w
                    obtain ⟨new', hnew, hrun⟩ := firstCells_sound hE h hx' hf (by
                      intro a k c hxx; subst hxx; simp [lenOfV] at hm; omega)
                    have hnl : new'.length = m * size := by rw [← hnew.length, b4]
                    -- how a new row stands for what it was made of
                    have fresh : ∀ (base' : Option Addr) (c' : Nat) (oldA old' : List Value), VRs E.M φ oldA old' → oldA.length = n * size → ¬ n + m ≤ c' → (∀ w1 : World, w1.heap = w.heap → (Builtin.firstCells size n (.slice base' n c')).run E.P w1 = .ok old'.toArray w1) →
                        ∃ v' w' φ', (Builtin.append_ #[sT, xT] ty #[.slice base' n c', x']).run E.P w = .ok v' w' ∧ VR E.M φ' (.slice (some (newA E H (.cells (oldA ++ new) size true)).1) (n + m) INF) v' ∧ Out E H (newA E H (.cells (oldA ++ new) size true)).2 φ φ' w w' := by
                      intro base' c' oldA old' hold hol hroom ho
                      refine ⟨_, _, _, run_append_grown hu hni hsz hb hz hlen hrun ho hroom b2 b1, ?_, grown_out h (hold.append hnew) size elem⟩
                      refine VR.newSliceUpd φ H.length ⟨w.heap.size, 0, _, size⟩ (n + m) INF (grownCap w (n + m) c' elem) (.inr rfl) (grownCap_ge _ _ _ _) ?_
                      have := grownCap_ge w (n + m) c' elem
                      have hol' : old'.length = n * size := by rw [← hold.length, hol]
                      simp only [List.length_append, zeroCells_length, hnl, hol', b3]
                      rw [← Nat.add_mul, ← Nat.add_mul]
                      exact Nat.mul_le_mul_right _ (by omega)
                    unfold appendA at hv
                    split at hv
                    · -- no row yet
                      cases hs'
                      split at hv
                      · cases hv
                      · rename_i hc0
                        have c0 : cap = 0 := Classical.not_not.1 fun q => hc0 (.inl q)
                        have n0 : n = 0 := Classical.not_not.1 fun q => hc0 (.inr q)
                        subst c0; subst n0
                        split at hv
                        · rename_i m0
                          subst m0
                          cases hv
                          refine ⟨_, _, _, run_append_fit (base := none) (c := 0) hu hni hsz (hlen w) (hrun w rfl) (Nat.le_refl _) rfl, .sliceNil _ _, Out.refl h⟩
                        · rename_i m0
                          cases hv
                          have := fresh none 0 [] [] .nil (by simp) (by omega) (fun w1 _ => by simp [Builtin.firstCells])
                          simpa using this
                    · rename_i a
                      split at hv
                      · cases hv
                      · rename_i hnc
                        split at hv
                        · rename_i m0
                          subst m0
                          cases hv
                          have hn0 : new' = [] := List.eq_nil_of_length_eq_zero (by simpa using hnl)
                          subst hn0
                          rcases VR.sliceForm hs' with ⟨h2, _⟩ | ⟨a1, h2, ho, rfl⟩ | ⟨r, off, c', ri, h2, rfl, hφ, hcc, hle, hbd⟩ | ⟨r, off, a1, h2, rfl, rfl, hcc⟩
                          · cases h2
                          · cases h2
                            exact ⟨_, _, _, run_append_fit hu hni hsz (hlen w) (hrun w rfl) (by omega) (by simp [storeCells]), .sliceOld _ _ _ ho, Out.refl h⟩
                          · cases h2
                            exact ⟨_, _, _, run_append_fit hu hni hsz (hlen w) (hrun w rfl) (by omega) (by simp [storeCells]), .sliceNew r off n cap c' ri hφ hcc hle hbd, Out.refl h⟩
                          · cases h2
                            exact ⟨_, _, _, run_append_fit hu hni hsz (hlen w) (hrun w rfl) (Nat.le_refl _) (by simp [storeCells]), .sliceEmp r off _ _ hcc, Out.refl h⟩
                        · rename_i m0
                          split at hv
                          · -- a row whose room is not known
                            rename_i hunk
                            split at hv
                            · cases hv
                            · rename_i c k hrow
                              split at hv
                              · cases hv
                              · rename_i hck
                                have k1 : k = size := Classical.not_not.1 fun q => hck (.inl q)
                                have k2 : a.off + n * size ≤ c.length := Nat.le_of_not_lt fun q => hck (.inr (.inl q))
                                have k3 : new.all Value.oneCell' = true := by
                                  cases hh : new.all Value.oneCell' with
                                  | true => rfl
                                  | false => exact absurd (.inr (.inr hh)) hck
                                cases hv
                                obtain ⟨r, off, ri, cs, ty1, fz, rfl, hH, hφ, g2, g3, g4, g5, g6, g7, g8⟩ := rowAt_new h hrow
                                subst k1
                                have hlt : r < H.length := (List.getElem?_eq_some_iff.1 hH).1
                                have hkill : kill E H (E.M + r) = H.set r .dead := by unfold kill; rw [show E.M + r - E.M = r by omega]
                                have hsub : VRs E.M φ ((c.drop off).take (n * k)) ((((cs.toList.drop ri.base).take c.length).drop off).take (n * k)) := (g8.drop off).take _
                                simp only at k2
                                have hgrow : ∀ (base' : Option Addr) (c' : Nat), ¬ n + m ≤ c' → (∃ old', VRs E.M φ ((c.drop off).take (n * k)) old' ∧ ∀ w1 : World, w1.heap = w.heap → (Builtin.firstCells k n (.slice base' n c')).run E.P w1 = .ok old'.toArray w1) →
                                    ∃ v' w' φ', (Builtin.append_ #[sT, xT] ty #[.slice base' n c', x']).run E.P w = .ok v' w' ∧ VR E.M φ' (.slice (some (newA E (kill E H (E.M + r)) (.cells ((c.drop off).take (n * k) ++ new) k true)).1) (n + m) INF) v' ∧ Out E H (newA E (kill E H (E.M + r)) (.cells ((c.drop off).take (n * k) ++ new) k true)).2 φ φ' w w' := by
                                  intro base' c' hroom ⟨old', hold, ho⟩
                                  have hko := Out.kill h r
                                  rw [hkill]
                                  have hol : ((c.drop off).take (n * k)).length = n * k := by simp; omega
                                  refine ⟨_, _, _, run_append_grown hu hni hsz hb hz hlen hrun ho hroom b2 b1, ?_, hko.trans (grown_out hko.rel (hold.append hnew) k elem)⟩
                                  refine VR.newSliceUpd φ (H.set r .dead).length ⟨w.heap.size, 0, _, k⟩ (n + m) INF (grownCap w (n + m) c' elem) (.inr rfl) (grownCap_ge _ _ _ _) ?_
                                  have := grownCap_ge w (n + m) c' elem
                                  have hol' : old'.length = n * k := by rw [← hold.length, hol]
                                  simp only [List.length_append, zeroCells_length, hnl, hol', b3]
                                  rw [← Nat.add_mul, ← Nat.add_mul]
                                  exact Nat.mul_le_mul_right _ (by omega)
                                rcases VR.sliceForm hs' with ⟨h2, _⟩ | ⟨a1, h2, ho, rfl⟩ | ⟨r1, off1, c', ri1, h2, rfl, hφ1, hcc, hle, hbd⟩ | ⟨r1, off1, a1, h2, rfl, rfl, hcc⟩
                                · cases h2
                                · cases h2
                                  have hlt9 : E.M + r < E.M := ho
                                  omega
                                · have er : r = r1 := by injection h2 with h2; injection h2 with h3; omega
                                  have eo : off = off1 := by injection h2 with h2; injection h2 with h3
                                  subst er; subst eo
                                  obtain rfl : ri = ri1 := Option.some.inj (hφ.symm.trans hφ1)
                                  by_cases hroom : n + m ≤ c'
                                  · -- in place
                                    have e3 : (n + m) * k = n * k + m * k := Nat.add_mul _ _ _
                                    have e4 : (n + m) * k ≤ c' * k := Nat.mul_le_mul_right _ hroom
                                    rw [g6] at hbd
                                    have hst := run_sc E.P ri.blk ty1 fz (ri.base + off + n * k) new' 0 cs w g3 g7 (by omega) (by rw [← hnew.oneCell]; exact k3)
                                    have hlt2 : ri.blk < w.heap.size := (Array.getElem?_eq_some_iff.1 g3).1
                                    refine ⟨_, _, repUpd φ H.length ⟨ri.blk, ri.base + off, ri.row - off, k⟩, run_append_fit hu hni hsz (hlen w) (hrun w rfl) hroom (by simp only; rw [add_lit]; exact hst), ?_, ?_⟩
                                    · rw [hkill]
                                      have : VR E.M (repUpd φ H.length ⟨ri.blk, ri.base + off, ri.row - off, k⟩) (.slice (some ⟨E.M + H.length, 0, none⟩) (n + m) INF) (.slice (some ⟨ri.blk, ri.base + off, none⟩) (n + m) c') := VR.newSliceUpd φ H.length ⟨ri.blk, ri.base + off, ri.row - off, k⟩ (n + m) INF c' (.inr rfl) hroom (by show c' * k ≤ ri.row - off; omega)
                                      simpa [newA] using this
                                    · rw [hkill]
                                      refine Out.graft h hH rfl hφ rfl ?_
                                      have hsz2 : (overA cs (ri.base + off + n * k + 0) new').size = cs.size := by
                                        unfold overA; simp only [List.size_toArray]; rw [overwrite_length _ _ _ (by simp; omega)]; simp
                                      have hcl : ((c.drop off).take (n * k) ++ new).length = n * k + m * k := by simp [b4]; omega
                                      refine ⟨⟨ri.blk, ri.base + off, ri.row - off, k⟩, _, ty1, fz, if_pos rfl, g2, setBlk_get hlt2, by rw [hsz2, g4]; show ri.base + ri.row = ri.base + off + (ri.row - off); omega, by rw [hcl]; show n * k + m * k ≤ ri.row - off; omega, rfl, by rw [hsz2]; exact g7, ?_⟩
                                      rw [hcl]
                                      have key : ((overA cs (ri.base + off + n * k + 0) new').toList.drop (ri.base + off)).take (n * k + m * k) = (((cs.toList.drop ri.base).take c.length).drop off).take (n * k) ++ new' := by
                                        unfold overA
                                        apply List.ext_getElem?
                                        intro i
                                        by_cases hi : i < n * k + m * k
                                        · rw [List.getElem?_take, if_pos hi, List.getElem?_drop]
                                          simp only [Nat.add_zero]
                                          rw [overwrite_get _ _ _ _ (by simp; omega)]
                                          by_cases h9 : i < n * k
                                          · rw [if_pos (by omega), List.getElem?_append_left (by simp; omega), List.getElem?_take, if_pos h9, List.getElem?_drop, List.getElem?_take, if_pos (by omega), List.getElem?_drop]
                                            congr 1; omega
                                          · rw [if_neg (by omega), if_pos (by omega), List.getElem?_append_right (by simp; omega)]
                                            congr 1; simp; omega
                                        · rw [List.getElem?_eq_none (by simp; omega), List.getElem?_eq_none (by simp; omega)]
                                      rw [key]
                                      exact (hsub.append hnew).mono (repUpd_ext (h.fresh _ (Nat.le_refl _)))
                                  · -- it grows
                                    refine hgrow _ c' hroom ⟨_, hsub, fun w1 hw1 => ?_⟩
                                    have hln : ((((cs.toList.drop ri.base).take c.length).drop off).take (n * k)).length = n * k := by simp; omega
                                    simp only [Builtin.firstCells]
                                    have hrr := run_loadCells_list (P := E.P) w1 ⟨ri.blk, ri.base + off, none⟩ ((((cs.toList.drop ri.base).take c.length).drop off).take (n * k)) (fun j v hj => ?_)
                                    · rw [hln] at hrr; exact hrr
                                    have hjl : j < n * k := by have := (List.getElem?_eq_some_iff.1 hj).1; rw [hln] at this; exact this
                                    rw [List.getElem?_take, if_pos hjl, List.getElem?_drop, List.getElem?_take, if_pos (by omega), List.getElem?_drop] at hj
                                    rw [cell_heap hw1, add_lit]
                                    simp [World.cell?, g3]
                                    rw [Nat.add_assoc]; simpa using hj
                                · have er : r = r1 := by injection h2 with h2; injection h2 with h3; omega
                                  subst er
                                  refine hgrow _ 0 (by omega) ⟨[], by simpa using VRs.nil, fun w1 _ => by simp [Builtin.firstCells, loadCells, loadCellsFrom]⟩
                          · rename_i hunk
                            split at hv
                            · -- room that is known
                              rename_i hroom
                              cases hst : stc E H (a.add (n * size)) new with
                              | none => simp [hst] at hv
                              | some H1 =>
                                simp [hst] at hv
                                obtain ⟨rfl, rfl⟩ := hv
                                rcases VR.sliceForm hs' with ⟨h2, _⟩ | ⟨a1, h2, ho, rfl⟩ | ⟨r, off, c', ri, h2, rfl, hφ, hcc, hle, hbd⟩ | ⟨r, off, a1, h2, rfl, rfl, hcc⟩
                                · cases h2
                                · cases h2
                                  unfold stc at hst
                                  have : (a.add (n * size)).block < E.M := by unfold Addr.add; split <;> exact ho
                                  rw [if_pos (.inl this)] at hst
                                  cases hst
                                · cases h2
                                  have ec : cap = c' := by
                                    rcases hcc with rfl | rfl
                                    · rfl
                                    · simp [unkCap] at hunk
                                  subst ec
                                  obtain ⟨w1, hs1, hout⟩ := stc_sound h ((AR.new r off ri hφ).add (n * size)) hnew hst
                                  refine ⟨_, w1, φ, run_append_fit hu hni hsz (hlen w) (hrun w rfl) hroom hs1, ?_, hout⟩
                                  exact .sliceNew r off _ cap cap ri hφ (.inl rfl) hroom hbd
                                · cases h2
                                  have ec : cap = 0 := by
                                    rcases hcc with rfl | rfl
                                    · rfl
                                    · simp [unkCap] at hunk
                                  omega
                            · rename_i hroom
                              cases hold : ldc E H a 0 (n * size) with
                              | none => simp [hold] at hv
                              | some old =>
                                simp [hold] at hv
                                obtain ⟨rfl, rfl⟩ := hv
                                have hol := ldc_length _ _ _ hold
                                rcases VR.sliceForm hs' with ⟨h2, _⟩ | ⟨a1, h2, ho, rfl⟩ | ⟨r, off, c', ri, h2, rfl, hφ, hcc, hle, hbd⟩ | ⟨r, off, a1, h2, rfl, rfl, hcc⟩
                                · cases h2
                                · cases h2
                                  obtain ⟨old', ho1, ho2⟩ := loadCells_sound hE h (.old a ho) hold
                                  exact fresh _ cap old old' ho1 hol hroom (fun w1 hw1 => by simp only [Builtin.firstCells]; exact ho2 w1 hw1)
                                · cases h2
                                  have ec : cap = c' := by
                                    rcases hcc with rfl | rfl
                                    · rfl
                                    · simp [unkCap] at hunk
                                  subst ec
                                  obtain ⟨old', ho1, ho2⟩ := loadCells_sound hE h (.new r off ri hφ) hold
                                  exact fresh _ cap old old' ho1 hol hroom (fun w1 hw1 => by simp only [Builtin.firstCells]; exact ho2 w1 hw1)
                                · cases h2
                                  have : old = [] := List.eq_nil_of_length_eq_zero (by simpa using hol)
                                  subst this
                                  exact fresh _ 0 [] [] .nil (by simp) (by omega) (fun w1 _ => by simp [Builtin.firstCells, loadCells, loadCellsFrom])
      · cases hv
    · cases hv
  · cases hv

end Go.Proofs.Ytmjcfcbjccepnaa.Eng
