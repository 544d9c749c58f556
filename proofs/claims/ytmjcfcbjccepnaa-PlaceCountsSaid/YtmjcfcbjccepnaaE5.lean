/-
  Each operation that lays or turns memory does in the real machine what it does in the abstract one.
-/
import Derived.Test.YtmjcfcbjccepnaaE4
import Derived.Great.BuildSlice
import Derived.Laws.MakeOwn
import Derived.Laws.AppendOwn
import Derived.Lib.AppendStr
namespace Go.Proofs.Ytmjcfcbjccepnaa.Eng
open Go Go.RowKit
set_option linter.unusedSimpArgs false
set_option linter.unusedVariables false
set_option linter.unusedSectionVars false

variable {E : Env} {H H' : AH} {φ φ' : Rep} {w w' : World}

/-! ### Filling -/
theorem foldl_over : ∀ (l : List Value) (i : Nat) (cells : Array Value) (off : Nat), off + i + l.length ≤ cells.size →
    ((l.zipIdx i).foldl (fun cs (x : Value × Nat) => cs.setIfInBounds (off + x.2) x.1) cells) = overA cells (off + i) l
  | [], i, cells, off, _ => by simp [overA, overwrite_nil]
  | v :: l, i, cells, off, h => by
    simp only [List.length_cons] at h
    rw [List.zipIdx_cons, List.foldl_cons, foldl_over l (i + 1) _ off (by simp; omega)]
    unfold overA
    congr 1
    rw [show off + (i + 1) = off + i + 1 by omega]
    simpa using overwrite_cons cells.toList (off + i) v l (by simp; omega)

theorem fill_sound {place : Nat → Option (Nat × Nat)} : ∀ (parts parts' : List (Nat × Value)) (cells r : List Value) (cells' : Array Value),
    parts.map (fun p => p.1) = parts'.map (fun p => p.1) → VRs E.M φ (parts.map fun p => p.2) (parts'.map fun p => p.2) → VRs E.M φ cells cells'.toList → fillA place cells parts = some r →
    ∃ r', Instr.fill place cells' parts' = some r' ∧ VRs E.M φ r r'.toList
  | [], parts', cells, r, cells', hn, hp, hc, h => by
    cases parts' with
    | nil => simp [fillA] at h; subst h; exact ⟨cells', rfl, hc⟩
    | cons _ _ => simp at hn
  | (i, v) :: parts, parts', cells, r, cells', hn, hp, hc, h => by
    cases parts' with
    | nil => simp at hn
    | cons p' parts' =>
      obtain ⟨i', v'⟩ := p'
      simp only [List.map_cons, List.cons.injEq] at hn
      obtain ⟨rfl, hn⟩ := hn
      simp only [List.map_cons] at hp
      cases hp with
      | cons _ _ _ _ hv hp =>
        unfold fillA at h
        unfold Instr.fill
        cases hpl : place i with
        | none => simp [hpl] at h
        | some p =>
          simp only [hpl, Option.bind_some] at h
          have hcl := hv.cells
          have e1 : v.cells.size = v'.cells.size := by simpa using hcl.length
          have e2 : cells.length = cells'.size := by simpa using hc.length
          split at h
          · cases h
          · rename_i hb
            have hb1 : v'.cells.size = p.2 := by rw [← e1]; exact Classical.not_not.1 (fun x => hb (.inl x))
            have hb2 : p.1 + v'.cells.size ≤ cells'.size := by
              rw [← e1, ← e2]; exact Nat.le_of_not_lt (fun x => hb (.inr x))
            obtain ⟨off, size⟩ := p
            simp only at hb1 hb2 h ⊢
            rw [if_neg (by simp [hb1]; omega)]
            refine fill_sound parts parts' _ r _ hn hp ?_ h
            have hf := foldl_over v'.cells.toList 0 cells' off (by simpa using hb2)
            rw [← Array.foldl_toList, Array.toList_zipIdx]
            rw [show (fun (cs : Array Value) (x : Value × Nat) => match x with | (c, j) => cs.setIfInBounds (off + j) c) = fun cs x => cs.setIfInBounds (off + x.2) x.1 from rfl, hf]
            unfold overA
            simpa using hc.overwrite hcl off

theorem placesT_built {t : TypeId} {pl : Nat → Option (Nat × Nat)} {z : Value} (hz : zeroT E t = some z) (hp : placesT E t = some pl) (parts : List (Nat × Value)) (r : Array Value) (hr : Instr.fill pl z.cells parts = some r) :
    E.P.built t parts = some r := by
  have hz := (zeroT_old E hz).1
  cases hi : E.P.info? t with
  | none => simp [hi] at hz
  | some it =>
    simp [hi] at hz
    unfold placesT at hp
    split at hp
    · rename_i fs hu
      cases hm : fs.toList.mapM (fun f => (E.P.info? f.type).map fun i => (f.offset, i.size)) with
      | none => simp [hm] at hp
      | some l =>
        simp [hm] at hp
        simp only [Program.built, hi, hu, hz, hm]
        rw [← hr]
        congr 1
        rw [← hp]
        funext i
        simp
    · rename_i n e hu
      cases hs : sizeT E e with
      | none => simp [hs] at hp
      | some k =>
        simp [hs] at hp
        obtain ⟨ie, hie, hik⟩ : ∃ i, E.P.info? e = some i ∧ i.size = k := by simpa [sizeT] using hs
        simp only [Program.built, hi, hu, hz, hie]
        rw [← hr, ← hp, hik]
    · cases hp

theorem zeros_rep (z : Array Value) (n : Nat) : ((Array.range (n * z.size)).map (z[· % z.size]!)).toList = repCells z.toList n := by
  have key : ∀ n, repCells z.toList n = (List.range (n * z.size)).map (fun i => z[i % z.size]!) := by
    intro n
    induction n with
    | zero => simp [repCells]
    | succ n ih =>
      rw [repCells, ih]
      have e : (n + 1) * z.size = n * z.size + z.size := Nat.succ_mul n z.size
      apply List.ext_getElem?
      intro i
      by_cases hi : i < z.size
      · rw [List.getElem?_append_left (by simpa using hi), List.getElem?_map, List.getElem?_range (by omega)]
        simp [Nat.mod_eq_of_lt hi, hi]
      · rw [List.getElem?_append_right (by simpa using hi)]
        simp only [Array.length_toList, List.getElem?_map]
        by_cases h2 : i < (n + 1) * z.size
        · rw [List.getElem?_range h2, List.getElem?_range (by omega)]
          simp only [Option.map_some]
          congr 2
          exact (Nat.mod_eq_sub_mod (by omega)).symm
        · rw [List.getElem?_eq_none (by simp; omega), List.getElem?_eq_none (by simp; omega)]
  rw [key]
  simp

theorem size_info {t : TypeId} {n : Nat} (h : sizeT E t = some n) : ∃ i, E.P.info? t = some i ∧ i.size = n := by simpa [sizeT] using h
theorem bytes_info {t : TypeId} {n : Nat} (h : bytesT E t = some n) : ∃ i, E.P.info? t = some i ∧ i.bytes = n := by simpa [bytesT] using h
theorem zero_info {t : TypeId} {z : Value} (h : zeroT E t = some z) : ∃ i, E.P.info? t = some i ∧ i.zero = some z := by
  have h := (zeroT_old E h).1
  cases hi : E.P.info? t with
  | none => simp [hi] at h
  | some i => simp [hi] at h; exact ⟨i, rfl, h⟩

/-- The types' zero values hold no address. -/
def ZeroOk (E : Env) : Prop := ∀ t z, zeroT E t = some z → plainV z = true

/-! ### New objects -/
theorem newRow_out (h : Rel E H φ w) {c c' : List Value} (hc : VRs E.M φ c c') (k : Nat) (ty : TypeId) (own : Bool) :
    Out E H (newA E H (.cells c k own)).2 φ (repUpd φ H.length ⟨w.heap.size, 0, c'.length, k⟩) w (w.alloc (.cells c'.toArray ty)) := by
  have hl := hc.length
  exact Out.row h (by rw [hl, List.take_length]; exact hc) (by omega) k ty own (0, 0) (NoFz.zero _)

theorem newA_ptr (h : Rel E H φ w) (o : AObj) (ri : RI) : VR E.M (repUpd φ H.length ri) (.pointer (some (newA E H o).1)) (.pointer (some ⟨ri.blk, ri.base, none⟩)) :=
  .ptrNew H.length 0 ri (by simp [repUpd])

theorem alloc_sound (h : Rel E H φ w) (hz0 : ZeroOk E) {e : TypeId} {z : Value} {n : Nat} (hz : zeroT E e = some z) :
    ∃ v' w' φ', (Instr.alloc e true (.tuple #[])).run E.P w = .ok v' w' ∧ VR E.M φ' (.pointer (some (newA E H (.cells z.cells.toList n true)).1)) v' ∧ Out E H (newA E H (.cells z.cells.toList n true)).2 φ φ' w w' := by
  refine ⟨_, _, _, ?_, newA_ptr h _ _, newRow_out h (VR.plain (hz0 _ _ hz)).cells n e true⟩
  simp [Instr.alloc, run_zero_some hz, newVar, newRow]

theorem box_sound (h : Rel E H φ w) {x x' : Value} (hx : VR E.M φ x x') (e : TypeId) (n : Nat) :
    ∃ v' w' φ', (Instr.box e x').run E.P w = .ok v' w' ∧ VR E.M φ' (.pointer (some (newA E H (.cells x.cells.toList n true)).1)) v' ∧ Out E H (newA E H (.cells x.cells.toList n true)).2 φ φ' w w' := by
  refine ⟨_, _, _, ?_, newA_ptr h _ _, newRow_out h hx.cells n e true⟩
  simp [Instr.box, newVar, newRow]

theorem build_sound (hz0 : ZeroOk E) {t : TypeId} {parts : List (Nat × Value)} {parts' : Array (Nat × Value)} {v : Value} (hn : parts.map (fun p => p.1) = parts'.toList.map (fun p => p.1))
    (hp : VRs E.M φ (parts.map fun p => p.2) (parts'.toList.map fun p => p.2)) (hv : evBuild E t parts = some v) (w : World) : ∃ v', (Instr.build t parts').run E.P w = .ok v' w ∧ VR E.M φ v v' := by
  unfold evBuild at hv
  cases hz : zeroT E t with
  | none => simp [hz] at hv
  | some z =>
    cases hpl : placesT E t with
    | none => simp [hz, hpl] at hv
    | some pl =>
      simp [hz, hpl] at hv
      obtain ⟨cs, hcs, rfl⟩ := hv
      obtain ⟨r', hr, hrel⟩ := fill_sound parts parts'.toList _ cs z.cells hn hp (VR.plain (hz0 _ _ hz)).cells hcs
      exact ⟨.agg r', run_build (P := E.P) w t parts' r' (placesT_built hz hpl _ _ hr), .agg _ _ (by simpa using hrel)⟩

theorem VR.newSlice {M : Nat} {r : Nat} {ri : RI} (hφ : φ r = some ri) (n c c' : Nat) (hc : c = c' ∨ c = INF) (hn : n ≤ c') (hb : c' * ri.k ≤ ri.row) :
    VR M φ (.slice (some ⟨M + r, 0, none⟩) n c) (.slice (some ⟨ri.blk, ri.base, none⟩) n c') := .sliceNew r 0 n c c' ri hφ hc hn (by omega)

theorem VR.newSliceUpd {M : Nat} (φ : Rep) (r : Nat) (ri : RI) (n c c' : Nat) (hc : c = c' ∨ c = INF) (hn : n ≤ c') (hb : c' * ri.k ≤ ri.row) :
    VR M (repUpd φ r ri) (.slice (some ⟨M + r, 0, none⟩) n c) (.slice (some ⟨ri.blk, ri.base, none⟩) n c') := VR.newSlice (if_pos rfl) n c c' hc hn hb

theorem fillA_length {place : Nat → Option (Nat × Nat)} : ∀ (parts : List (Nat × Value)) (cells r : List Value), fillA place cells parts = some r → r.length = cells.length
  | [], cells, r, h => by simp [fillA] at h; rw [h]
  | (i, v) :: parts, cells, r, h => by
    unfold fillA at h
    cases hp : place i with
    | none => simp [hp] at h
    | some p =>
      simp only [hp, Option.bind_some] at h
      split at h
      · cases h
      · rename_i hb
        rw [fillA_length parts _ r h, overwrite_length]
        simp only [Array.length_toList]
        exact Nat.le_of_not_lt (fun x => hb (.inr x))

theorem repCells_length (z : List Value) : ∀ n, (repCells z n).length = n * z.length
  | 0 => by simp [repCells]
  | n + 1 => by simp [repCells, repCells_length z n, Nat.add_mul]; omega

theorem buildSlice_sound (h : Rel E H φ w) (hz0 : ZeroOk E) {t : TypeId} {len : Nat} {parts : List (Nat × Value)} {parts' : Array (Nat × Value)} {v : Value} (hn : parts.map (fun p => p.1) = parts'.toList.map (fun p => p.1))
    (hp : VRs E.M φ (parts.map fun p => p.2) (parts'.toList.map fun p => p.2)) (hv : evBuildSlice E t len parts H = some (v, H')) :
    ∃ v' w' φ', (Instr.buildSlice t len parts').run E.P w = .ok v' w' ∧ VR E.M φ' v v' ∧ Out E H H' φ φ' w w' := by
  unfold evBuildSlice at hv
  split at hv
  · rename_i e hu
    cases hs : sizeT E e with
    | none => simp [hs] at hv
    | some size =>
      cases hz : zeroT E e with
      | none => simp [hs, hz] at hv
      | some z =>
        simp only [hs, hz, Option.bind_some] at hv
        split at hv
        · cases hv
        · rename_i hb
          have hb1 : ¬ len * size > 16777216 := fun x => hb (.inl x)
          have hb2 : z.cells.size = size := Classical.not_not.1 fun x => hb (.inr x)
          cases hf : fillA (fun i => some (i * size, size)) (repCells z.cells.toList len) parts with
          | none => simp [hf] at hv
          | some cs =>
            simp [hf] at hv
            obtain ⟨rfl, rfl⟩ := hv
            obtain ⟨ie, hie, his⟩ := size_info hs
            obtain ⟨ie2, hie2, hzz⟩ := zero_info hz
            obtain rfl : ie = ie2 := Option.some.inj (hie.symm.trans hie2)
            have hrep : ((Array.range (len * size)).map (z.cells[· % z.cells.size]!)).toList = repCells z.cells.toList len := by rw [← hb2]; exact zeros_rep z.cells len
            obtain ⟨r', hr, hrel⟩ := fill_sound (E := E) (φ := φ) parts parts'.toList _ cs ((Array.range (len * size)).map (z.cells[· % z.cells.size]!)) hn hp (by rw [hrep]; exact (VR.plain (hz0 _ _ hz)).cells.rep len) hf
            have hlen : cs.length = len * size := by rw [fillA_length _ _ _ hf, repCells_length]; simp [hb2]
            have hlen' : r'.toList.length = len * size := by rw [← hrel.length, hlen]
            refine ⟨.slice (some ⟨w.heap.size, 0, none⟩) len len, _, _, ?_, ?_, newRow_out h hrel size e true⟩
            · by_cases hpos : len * size = 0
              · simp only [Array.toArray_toList]
                have e0 : (Array.range (len * size)).map (z.cells[· % z.cells.size]!) = #[] := by rw [hpos]; simp [Array.range_zero']
                rw [e0] at hr
                simp [Instr.buildSlice, run_underlying hu, run_size_some hs, hpos, newRow, Array.range_zero', hr]
              · simp only [Array.toArray_toList]
                exact run_buildSlice (P := E.P) w t e len parts' r' ie z hu hie hzz (by rw [his]; exact hb1) (by rw [his]; exact hpos) (by rw [his]; exact hr)
            · exact VR.newSlice (ri := ⟨w.heap.size, 0, r'.toList.length, size⟩) (if_pos rfl) len len len (.inl rfl) (Nat.le_refl _) (Nat.le_of_eq hlen'.symm)
  · cases hv

theorem makeSlice_sound (h : Rel E H φ w) (hz0 : ZeroOk E) {t : TypeId} {l c l' c' v : Value} (hl : VR E.M φ l l') (hc : VR E.M φ c c') (hv : evMakeSlice E t l c H = some (v, H')) :
    ∃ v' w' φ', (Instr.makeSlice t l' c').run E.P w = .ok v' w' ∧ VR E.M φ' v v' ∧ Out E H H' φ φ' w w' := by
  unfold evMakeSlice at hv
  split at hv
  · rename_i e kl l kc c hu
    cases hl; cases hc
    cases hs : sizeT E e with
    | none => simp [hs] at hv
    | some size =>
      cases hb : bytesT E e with
      | none => simp [hs, hb] at hv
      | some by_ =>
        cases hz : zeroT E e with
        | none => simp [hs, hb, hz] at hv
        | some z =>
          simp only [hs, hb, hz, Option.bind_some] at hv
          split at hv
          · cases hv
          · rename_i hn
            have n1 : ¬ l < 0 := fun x => hn (.inl x)
            have n2 : ¬ l > c := fun x => hn (.inr (.inl x))
            have n3 : ¬ (by_ : Int) * c > 140737488355328 := fun x => hn (.inr (.inr (.inl x)))
            have n4 : ¬ c > 9223372036854775807 := fun x => hn (.inr (.inr (.inr (.inl x))))
            have n5 : z.cells.size = size := Classical.not_not.1 fun x => hn (.inr (.inr (.inr (.inr x))))
            simp only [Option.some.injEq, Prod.mk.injEq] at hv
            obtain ⟨rfl, rfl⟩ := hv
            obtain ⟨ie, hie, his⟩ := size_info hs
            obtain ⟨ie2, hie2, hzz⟩ := zero_info hz
            obtain ⟨ie3, hie3, hbb⟩ := bytes_info hb
            obtain rfl : ie = ie2 := Option.some.inj (hie.symm.trans hie2)
            obtain rfl : ie = ie3 := Option.some.inj (hie.symm.trans hie3)
            have hrun := run_make (P := E.P) w t e ie z hu hie hzz kl kc l c (by omega) (by omega) (by rw [hbb]; omega) (by omega)
            have hrep : (madeCells z.cells (c.toNat * ie.size)).toList = repCells z.cells.toList c.toNat := by
              unfold madeCells; rw [his, ← n5]; exact zeros_rep z.cells _
            have hrel : VRs E.M φ (repCells z.cells.toList c.toNat) (madeCells z.cells (c.toNat * ie.size)).toList := by
              rw [hrep]; exact (VR.plain (hz0 _ _ hz)).cells.rep _
            refine ⟨.slice (some ⟨w.heap.size, 0, none⟩) l.toNat c.toNat, _, _, ?_, ?_, newRow_out h hrel size e true⟩
            · rw [Array.toArray_toList]; exact hrun
            · refine VR.newSlice (ri := ⟨w.heap.size, 0, (madeCells z.cells (c.toNat * ie.size)).toList.length, size⟩) (if_pos rfl) _ _ _ (.inl rfl) (by omega) ?_
              show c.toNat * size ≤ (madeCells z.cells (c.toNat * ie.size)).toList.length
              rw [hrep, repCells_length]
              simp [n5]
  · cases hv

end Go.Proofs.Ytmjcfcbjccepnaa.Eng
