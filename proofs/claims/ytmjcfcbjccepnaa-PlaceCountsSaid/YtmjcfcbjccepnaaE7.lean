/-
  copy, clear, conversions, maps, and what answers by looking alone; then every operation together.
-/
import Derived.Test.YtmjcfcbjccepnaaE6
import Derived.Laws.BytesString
namespace Go.Proofs.Ytmjcfcbjccepnaa.Eng
open Go Go.RowKit
set_option linter.unusedSimpArgs false
set_option linter.unusedVariables false
set_option linter.unusedSectionVars false

variable {E : Env} {H H' : AH} {φ φ' : Rep} {w w' : World}

theorem argsOne {args : List Value} {x : Value} (hx : args = [x]) {args' : Array Value} (ha : VRs E.M φ args args'.toList) : ∃ x', args' = #[x'] ∧ VR E.M φ x x' := by
  subst hx
  obtain ⟨l⟩ := args'
  cases ha with | cons _ y _ _ h1 h2 => cases h2; exact ⟨y, rfl, h1⟩
theorem argsTwo {args : List Value} {x y : Value} (hx : args = [x, y]) {args' : Array Value} (ha : VRs E.M φ args args'.toList) : ∃ x' y', args' = #[x', y'] ∧ VR E.M φ x x' ∧ VR E.M φ y y' := by
  subst hx
  obtain ⟨l⟩ := args'
  cases ha with | cons _ u _ _ h1 h2 => cases h2 with | cons _ v _ _ h3 h4 => cases h4; exact ⟨u, v, rfl, h1, h3⟩

theorem VRs.nil_iff {M : Nat} {l : List Value} (h : VRs M φ [] l) : l = [] := by cases h; rfl

theorem copy_sound (hE : EnvOk E) (h : Rel E H φ w) {argTypes : Array TypeId} {ty : TypeId} {args : List Value} {args' : Array Value} {v : Value} (ha : VRs E.M φ args args'.toList) (hv : evCopy E argTypes args H = some (v, H')) :
    ∃ v' w' φ', (Builtin.copy_ argTypes ty args').run E.P w = .ok v' w' ∧ VR E.M φ' v v' ∧ Out E H H' φ φ' w w' := by
  unfold evCopy at hv
  split at hv
  · rename_i dT base n cap x h0
    obtain ⟨s', x', rfl, hs', hx'⟩ := argsTwo rfl ha
    split at hv
    · rename_i elem hu
      cases hsz : sizeT E elem with
      | none => simp [hsz] at hv
      | some size =>
        cases hm : lenOfV x with
        | none => simp [hsz, hm] at hv
        | some m =>
          cases hf : firstCellsA E H size (Nat.min m n) x with
          | none => simp [hsz, hm, hf] at hv
          | some cs =>
            simp only [hsz, hm, hf, Option.bind_some] at hv
            have hlen := fun w => lenOf_sound (E := E) (φ := φ) hx' hm w
            obtain ⟨cs', hcs, hrun⟩ := firstCells_sound hE h hx' hf (by
              intro a k c hxx; subst hxx; simp [lenOfV] at hm; subst hm; exact Nat.min_le_left _ _)
            have hrun' := hrun w rfl
            have go : ∀ (base' : Option Addr) (c' : Nat) (w1 : World), s' = .slice base' n c' → (match base' with | some a => (storeCells a cs' 0).run E.P w = .ok () w1 | none => w1 = w) →
                (Builtin.copy_ argTypes ty #[s', x']).run E.P w = .ok (.int .i64 (Nat.min m n : Nat)) w1 := by
              intro base' c' w1 hs hst
              subst hs
              cases base' with
              | none => simp only at hst; subst hst; simp [Builtin.copy_, h0, run_underlying hu, hlen, run_size_some hsz, hrun', goInt]
              | some a => simp only at hst; simp [Builtin.copy_, h0, run_underlying hu, hlen, run_size_some hsz, hrun', goInt, hst]
            split at hv
            · cases hv
              cases hs'
              exact ⟨_, w, φ, go none _ w rfl rfl, .int _ _, Out.refl h⟩
            · rename_i a
              split at hv
              · rename_i hc0
                subst hc0
                cases hv
                have := VRs.nil_iff hcs
                subst this
                rcases VR.sliceForm hs' with ⟨h2, _⟩ | ⟨a1, h2, ho, rfl⟩ | ⟨r, off, c', ri, h2, rfl, hφ, hcc, hle, hbd⟩ | ⟨r, off, a1, h2, rfl, rfl, hcc⟩
                · cases h2
                · exact ⟨_, w, φ, go _ _ w rfl (by simp [storeCells]), .int _ _, Out.refl h⟩
                · exact ⟨_, w, φ, go _ _ w rfl (by simp [storeCells]), .int _ _, Out.refl h⟩
                · exact ⟨_, w, φ, go _ _ w rfl (by simp [storeCells]), .int _ _, Out.refl h⟩
              · rename_i hc0
                cases hst : stc E H a cs with
                | none => simp [hst] at hv
                | some H1 =>
                  simp [hst] at hv
                  obtain ⟨rfl, rfl⟩ := hv
                  rcases VR.sliceForm hs' with ⟨h2, _⟩ | ⟨a1, h2, ho, rfl⟩ | ⟨r, off, c', ri, h2, rfl, hφ, hcc, hle, hbd⟩ | ⟨r, off, a1, h2, rfl, rfl, hcc⟩
                  · cases h2
                  · cases h2
                    obtain ⟨w1, hs1, hout⟩ := stc_sound h (.old a ho) hcs hst
                    exact ⟨_, w1, φ, go _ _ w1 rfl hs1, .int _ _, hout⟩
                  · cases h2
                    obtain ⟨w1, hs1, hout⟩ := stc_sound h (.new r off ri hφ) hcs hst
                    exact ⟨_, w1, φ, go _ _ w1 rfl hs1, .int _ _, hout⟩
                  · exfalso
                    apply hc0
                    have hmin : Nat.min m 0 = 0 := Nat.min_eq_right (Nat.zero_le _)
                    rw [hmin] at hf
                    unfold firstCellsA at hf
                    split at hf
                    · simpa [ldc_zero] using hf.symm
                    · exact (Option.some.inj hf).symm
                    · rename_i s
                      have := Option.some.inj hf
                      rw [← this]
                      have e : s.extract 0 0 = ByteArray.empty := by simp
                      simp [Eng.bytesCells, e]
                    · cases hf
    · cases hv
  · cases hv

theorem clear_sound (hz0 : ZeroOk E) (h : Rel E H φ w) {argTypes : Array TypeId} {ty : TypeId} {args : List Value} {args' : Array Value} {v : Value} (ha : VRs E.M φ args args'.toList) (hv : evClear E argTypes args H = some (v, H')) :
    ∃ v' w' φ', (Builtin.clear_ argTypes ty args').run E.P w = .ok v' w' ∧ VR E.M φ' v v' ∧ Out E H H' φ φ' w w' := by
  unfold evClear at hv
  split at hv
  · rename_i t base n cap h0
    obtain ⟨s', rfl, hs'⟩ := argsOne rfl ha
    split at hv
    · rename_i elem hu
      split at hv
      · cases hv
        cases hs'
        exact ⟨undef, w, φ, by simp [Builtin.clear_, h0, run_underlying hu, undef], VR.undef, Out.refl h⟩
      · rename_i a
        split at hv
        · rename_i hn; subst hn
          cases hv
          refine ⟨undef, w, φ, ?_, VR.undef, Out.refl h⟩
          rcases VR.sliceForm hs' with ⟨h2, _⟩ | ⟨a1, h2, ho, rfl⟩ | ⟨r, off, c', ri, h2, rfl, hφ, hcc, hle, hbd⟩ | ⟨r, off, a1, h2, rfl, _, hcc⟩
          · cases h2
          all_goals simp [Builtin.clear_, h0, run_underlying hu, undef]
        · rename_i hn
          cases hz : zeroT E elem with
          | none => simp [hz] at hv
          | some z =>
            cases hst : stc E H a (repCells z.cells.toList n) with
            | none => simp [hz, hst] at hv
            | some H1 =>
              simp [hz, hst] at hv
              obtain ⟨rfl, rfl⟩ := hv
              have hzr : VRs E.M φ (repCells z.cells.toList n) (Builtin.zeroCells z.cells n).toList := by
                rw [show (Builtin.zeroCells z.cells n).toList = repCells z.cells.toList n from zeros_rep z.cells n]
                exact (VR.plain (hz0 _ _ hz)).cells.rep _
              rcases VR.sliceForm hs' with ⟨h2, _⟩ | ⟨a1, h2, ho, rfl⟩ | ⟨r, off, c', ri, h2, rfl, hφ, hcc, hle, hbd⟩ | ⟨r, off, a1, h2, rfl, hk, hcc⟩
              · cases h2
              · cases h2
                obtain ⟨w1, hs1, hout⟩ := stc_sound h (.old a ho) hzr hst
                exact ⟨undef, w1, φ, by simp [Builtin.clear_, h0, run_underlying hu, undef, hn, run_zero_some hz, hs1], VR.undef, hout⟩
              · cases h2
                obtain ⟨w1, hs1, hout⟩ := stc_sound h (.new r off ri hφ) hzr hst
                exact ⟨undef, w1, φ, by simp [Builtin.clear_, h0, run_underlying hu, undef, hn, run_zero_some hz, hs1], VR.undef, hout⟩
              · exact absurd hk hn
    · cases hv
  · cases hv

theorem bytes_mapM : ∀ (cs : List Value) (bs : List UInt8), cs.mapM byteOf = some bs → ∃ ns : List Int, cs = ns.map (Value.int .u8) ∧ bs = ns.map (fun n => UInt8.ofNat n.toNat)
  | [], bs, h => by simp at h; subst h; exact ⟨[], rfl, rfl⟩
  | c :: cs, bs, h => by
    simp only [List.mapM_cons, Option.bind_eq_bind, Option.pure_def] at h
    cases h1 : byteOf c with
    | none => simp [h1] at h
    | some b =>
      cases h2 : cs.mapM byteOf with
      | none => simp [h1, h2] at h
      | some r =>
        simp [h1, h2] at h; subst h
        obtain ⟨ns, e1, e2⟩ := bytes_mapM cs r h2
        unfold byteOf at h1
        split at h1
        · rename_i n
          cases h1
          exact ⟨n :: ns, by simp [e1], by simp [e2]⟩
        · cases h1

theorem push_foldl : ∀ (ns : List Int) (s : ByteArray), ns.foldl (fun r n => r.push (UInt8.ofNat n.toNat)) s = ⟨(s.data.toList ++ ns.map (fun n => UInt8.ofNat n.toNat)).toArray⟩
  | [], s => by simp
  | n :: ns, s => by
    rw [List.foldl_cons, push_foldl ns]
    congr 1
    apply Array.ext'
    simp [ByteArray.push]

theorem VRs.ints {M : Nat} : ∀ (ns : List Int) (k : IntKind) (l : List Value), VRs M φ (ns.map (Value.int k)) l → l = ns.map (Value.int k)
  | [], k, l, h => by simpa using VRs.nil_iff h
  | n :: ns, k, l, h => by
    cases h with | cons _ y _ ys h1 h2 => cases h1; rw [VRs.ints ns k ys h2]; rfl

theorem convert_sound (hE : EnvOk E) (h : Rel E H φ w) {src dst : TypeId} {x x' v : Value} (hx : VR E.M φ x x') (hv : evConvert E src dst x H = some (v, H')) :
    ∃ v' w' φ', (convert src dst x').run E.P w = .ok v' w' ∧ VR E.M φ' v v' ∧ Out E H H' φ φ' w w' := by
  unfold evConvert at hv
  split at hv
  · rename_i k n h1 h2
    cases hv
    cases hx
    exact ⟨_, w, φ, by simp [convert, run_underlying h1, run_underlying h2, Conv.intToInt], .int _ _, Out.refl h⟩
  · rename_i s h1 h2
    cases hv
    cases hx
    exact ⟨_, w, φ, by simp [convert, run_underlying h1, run_underlying h2], .string _, Out.refl h⟩
  · rename_i e s h1 h2
    cases hx
    split at hv
    · rename_i h3
      split at hv
      · cases hv
        have hrun := Lib.run_convert_string_bytes (P := E.P) w src dst e s h1 h2 h3
        have hc : VRs E.M φ (Eng.bytesCells s) (s.data.map fun b => Value.int .u8 b.toNat).toList := by
          rw [Array.toList_map]; exact VRs.map (fun b => .int _ _) _
        refine ⟨_, _, repUpd φ H.length ⟨w.heap.size, 0, (Lib.bytesCells w e s).size, 1⟩, hrun, ?_, ?_⟩
        · refine VR.newSliceUpd φ H.length ⟨w.heap.size, 0, (Lib.bytesCells w e s).size, 1⟩ _ _ _ (.inr rfl) (grownCap_ge _ _ _ _) ?_
          have hg := grownCap_ge w s.size 0 e
          simp only [Lib.bytesCells, Array.size_append, Array.size_map, Array.size_replicate]
          have : s.data.size = s.size := rfl
          omega
        · have hl : (Eng.bytesCells s).length = s.size := by simp [Eng.bytesCells]
          have h4 := Out.row h.drew (c := Eng.bytesCells s) (cs := (Lib.bytesCells w e s).toList) (by
              unfold Lib.bytesCells
              rw [hl, Array.toList_append, List.take_left' (by simp)]
              exact hc) (by rw [hl]; simp [Lib.bytesCells]) 1 e true ((Lib.bytesCells w e s).size, (Lib.bytesCells w e s).size + 1) (by intro i hi hh; simp at hi; omega)
          have hworld : (Lib.bytesWorld w e s).heap = (w.drew.alloc (.cells (Lib.bytesCells w e s).toList.toArray e ((Lib.bytesCells w e s).size, (Lib.bytesCells w e s).size + 1))).heap := by
            apply Array.ext_getElem?
            intro i
            by_cases hi : i < w.heap.size
            · rw [Lib.bytesWorld_at_old w e s i hi]
              exact (heap_alloc_old w.drew _ hi).symm
            · by_cases hi2 : i = w.heap.size
              · subst hi2
                rw [Lib.bytesWorld_at_new]
                rw [show w.heap.size = w.drew.heap.size from rfl, heap_alloc_at]
              · rw [Array.getElem?_eq_none (by rw [Lib.bytesWorld_size]; omega), Array.getElem?_eq_none (by
                  have : (w.drew.alloc (.cells (Lib.bytesCells w e s).toList.toArray e ((Lib.bytesCells w e s).size, (Lib.bytesCells w e s).size + 1))).heap.size = w.heap.size + 1 := Array.size_push ..
                  omega)]
          have h5 := Out.heap h4 (w'' := Lib.bytesWorld w e s) hworld rfl rfl rfl
          rw [Array.length_toList] at h5
          exact ⟨h5.dom, h5.len, h5.rel, h5.size, h5.frame, h5.newblk, h5.ownm, h5.livem⟩
      · cases hv
    · cases hv
  · rename_i e base n cap h1 h2
    split at hv
    · rename_i h3
      split at hv
      · cases hv
        cases hx
        exact ⟨_, w, φ, by simp [convert, run_underlying h1, run_underlying h2, run_underlying h3, Conv.bytesToString], .string _, Out.refl h⟩
      · rename_i a
        cases hl : ldc E H a 0 n with
        | none => simp [hl] at hv
        | some cs =>
          simp only [hl, Option.bind_some] at hv
          cases hb : cs.mapM byteOf with
          | none => simp [hb] at hv
          | some bs =>
            simp [hb] at hv
            obtain ⟨rfl, rfl⟩ := hv
            obtain ⟨ns, rfl, rfl⟩ := bytes_mapM cs bs hb
            have hlen := ldc_length _ _ _ hl
            have go : ∀ (a' : Addr) (n' c' : Nat), (loadCells a' n').run E.P w = .ok (ns.map (Value.int .u8)).toArray w → x' = .slice (some a') n' c' →
                (convert src dst x').run E.P w = .ok (.string ⟨(ns.map (fun n => UInt8.ofNat n.toNat)).toArray⟩) w := by
              intro a' n' c' hr hx'
              subst hx'
              have := run_bytesToString (P := E.P) w a' n' c' ns hr
              rw [push_foldl] at this
              simp only [convert, Sem.run_bind, run_underlying h1, run_underlying h2, run_underlying h3, Result.andThen_ok, this]
              simp
            refine ⟨_, w, φ, ?_, .string _, Out.refl h⟩
            rcases VR.sliceForm hx with ⟨h4, _⟩ | ⟨a1, h4, ho, rfl⟩ | ⟨r, off, c', ri, h4, rfl, hφ, hcc, hle, hbd⟩ | ⟨r, off, a1, h4, rfl, hk, hcc⟩
            · cases h4
            · cases h4
              obtain ⟨cs', hr, hrun⟩ := loadCells_sound hE h (.old a ho) hl
              rw [VRs.ints _ _ _ hr] at hrun
              exact go _ _ _ (hrun w rfl) rfl
            · cases h4
              obtain ⟨cs', hr, hrun⟩ := loadCells_sound hE h (.new r off ri hφ) hl
              rw [VRs.ints _ _ _ hr] at hrun
              exact go _ _ _ (hrun w rfl) rfl
            · subst hk
              have : ns = [] := List.eq_nil_of_length_eq_zero (by simpa using hlen)
              subst this
              exact go _ _ _ (by simp [loadCells, loadCellsFrom]) rfl
    · cases hv
  · cases hv

/-! ### Maps -/
theorem getMap_run {b : Nat} {es : Array MapEntry} {clock : Nat} (hb : w.heap[b]? = some (.map es clock)) : (getObj b).run E.P w = .ok (.map es clock) w := by simp [getObj, Sem.run, hb]
theorem setMap_run {b : Nat} {es : Array MapEntry} {clock : Nat} (o : Obj) (hb : w.heap[b]? = some (.map es clock)) : (setObj b o).run E.P w = .ok () (setBlk w b o) := by simp [setObj, Sem.run, hb, setBlk]
theorem findKey_run {kt : TypeId} {d : TypeDesc} {k : Value} {l : List MapEntry} {a : Option (Nat × Value)} (hd : E.P.underlying kt = some d) (h : Instr.findNow d k l 0 = some a) : (Instr.findKey kt k l).run E.P w = .ok a w := by
  simp [Instr.findKey, run_underlying hd, h]
theorem bytes_eq_of (a b : ByteArray) (h : (a == b) = true) : a = b := by
  obtain ⟨x⟩ := a
  obtain ⟨y⟩ := b
  have e : x = y := by simpa using (show (x == y) = true from h)
  rw [e]
theorem plainKey_run {kt : TypeId} {d : TypeDesc} (h : plainKey E kt = some d) : E.P.underlying kt = some d ∧ (∀ (e : Bool) (k : Value) (w : World), (Instr.checkKey e 10000 kt k).run E.P w = .ok () w) ∧ ((∃ k, d = .int k) ∨ d = .string) := by
  unfold plainKey at h
  split at h
  · rename_i k hu
    cases h
    refine ⟨hu, fun e x w => ?_, .inl ⟨k, rfl⟩⟩
    unfold Instr.checkKey
    simp only [Sem.run_bind, run_underlying hu, Result.andThen_ok, Sem.run_pure]
  · rename_i hu
    cases h
    refine ⟨hu, fun e x w => ?_, .inr rfl⟩
    unfold Instr.checkKey
    simp only [Sem.run_bind, run_underlying hu, Result.andThen_ok, Sem.run_pure]
  · cases h

theorem sameNow_vr {d : TypeDesc} {k k' a a' : Value} {b : Bool} (h : Instr.sameNow d k a = some b) (hk : VR E.M φ k k') (ha : VR E.M φ a a') : k = k' ∧ a = a' := by
  unfold Instr.sameNow at h
  split at h
  · cases hk; cases ha; exact ⟨rfl, rfl⟩
  · cases hk; cases ha; exact ⟨rfl, rfl⟩
  · cases hk; cases ha; exact ⟨rfl, rfl⟩
  · cases h

theorem findE_sound {d : TypeDesc} {k k' : Value} (hk : VR E.M φ k k') : ∀ (es : List (Value × Value)) (mes : List MapEntry) (i : Nat) (r : Option Nat), VRs E.M φ (es.map fun p => p.1) (mes.map fun e => e.key) → VRs E.M φ (es.map fun p => p.2) (mes.map fun e => e.val) →
    findE d k es i = some r → match r with
      | none => Instr.findNow d k' mes i = some none
      | some j => ∃ e p, i ≤ j ∧ mes[j - i]? = some e ∧ es[j - i]? = some p ∧ Instr.findNow d k' mes i = some (some (j, e.val)) ∧ VR E.M φ p.2 e.val ∧ Instr.sameNow d k' e.key = some true
  | [], mes, i, r, h1, h2, h => by
    cases mes with
    | nil => simp [findE] at h; subst h; rfl
    | cons _ _ => simp at h1; cases h1
  | p :: es, mes, i, r, h1, h2, h => by
    cases mes with
    | nil => simp at h1; cases h1
    | cons e mes =>
      simp only [List.map_cons] at h1 h2
      cases h1 with | cons _ _ _ _ hk1 hks =>
      cases h2 with | cons _ _ _ _ hv1 hvs =>
      unfold findE at h
      cases hs : Instr.sameNow d k p.1 with
      | none => simp [hs] at h
      | some b =>
        obtain ⟨e1, e2⟩ := sameNow_vr hs hk hk1
        have hs' : Instr.sameNow d k' e.key = some b := by rw [← e1, ← e2]; exact hs
        simp only [hs, Option.bind_some] at h
        cases b with
        | true =>
          simp at h; subst h
          exact ⟨e, p, Nat.le_refl _, by simp, by simp, by simp [Instr.findNow, hs'], hv1, hs'⟩
        | false =>
          simp at h
          have := findE_sound hk es mes (i + 1) r hks hvs h
          cases r with
          | none => simpa [Instr.findNow, hs'] using this
          | some j =>
            obtain ⟨e', p', g1, g2, g3, g4, g5, g6⟩ := this
            exact ⟨e', p', by omega, by rw [show j - i = (j - (i + 1)) + 1 by omega]; simpa using g2, by rw [show j - i = (j - (i + 1)) + 1 by omega]; simpa using g3, by simpa [Instr.findNow, hs'] using g4, g5, g6⟩

theorem mapAt_sound (h : Rel E H φ w) {r : Nat} {m' : Value} (hm : VR E.M φ (.map (some r)) m') {es : List (Value × Value)} {own : Bool} (hr : mapAt E H r = some (es, own)) :
    ∃ r1 ri mes clock, r = E.M + r1 ∧ H[r1]? = some (.map es own) ∧ φ r1 = some ri ∧ m' = .map (some ri.blk) ∧ E.w0.heap.size ≤ ri.blk ∧ w.heap[ri.blk]? = some (.map mes clock) ∧
      VRs E.M φ (es.map fun p => p.1) (mes.toList.map fun e => e.key) ∧ VRs E.M φ (es.map fun p => p.2) (mes.toList.map fun e => e.val) := by
  unfold mapAt at hr
  split at hr
  · cases hr
  · rename_i hold
    split at hr
    · rename_i es1 o1 hH
      cases hr
      cases hm with
      | mapOld _ ho => exact absurd ho hold
      | mapNew r1 ri hφ =>
        rw [show E.M + r1 - E.M = r1 by omega] at hH
        obtain ⟨ri', mes, clock, g1, g2, g3, g4, g5⟩ := h.obj r1 _ hH
        obtain rfl : ri = ri' := Option.some.inj (hφ.symm.trans g1)
        exact ⟨r1, ri, mes, clock, rfl, hH, hφ, rfl, g2, g3, g4, g5⟩
    · cases hr

theorem lookup_sound (hz0 : ZeroOk E) (h : Rel E H φ w) {t : TypeId} {x k x' k' v : Value} {ok : Bool} (hx : VR E.M φ x x') (hk : VR E.M φ k k') (hv : evLookup E t x k ok H = some v) :
    ∃ v', (Instr.lookup t x' k' ok).run E.P w = .ok v' w ∧ VR E.M φ v v' := by
  unfold evLookup at hv
  split at hv
  · rename_i kt et hu
    cases hd : plainKey E kt with
    | none => simp [hd] at hv
    | some d =>
      cases hz : zeroT E et with
      | none => simp [hd, hz] at hv
      | some z =>
        cases he : entriesOf E H x with
        | none => simp [hd, hz, he] at hv
        | some es =>
          cases hf : findE d k es 0 with
          | none => simp [hd, hz, he, hf] at hv
          | some r =>
            simp only [hd, hz, he, hf, Option.bind_some, Option.map_some, Option.some.injEq] at hv
            obtain ⟨hud, hck, _⟩ := plainKey_run hd
            obtain ⟨mes, hget, hks, hvs⟩ : ∃ mes : Array MapEntry, ((x' = .map none ∧ mes = #[]) ∨ ∃ b clock, x' = .map (some b) ∧ w.heap[b]? = some (.map mes clock)) ∧
                VRs E.M φ (es.map fun p => p.1) (mes.toList.map fun e => e.key) ∧ VRs E.M φ (es.map fun p => p.2) (mes.toList.map fun e => e.val) := by
              unfold entriesOf at he
              split at he
              · cases he; cases hx
                exact ⟨#[], .inl ⟨rfl, rfl⟩, .nil, .nil⟩
              · rename_i r0
                cases hm : mapAt E H r0 with
                | none => simp [hm] at he
                | some p =>
                  simp [hm] at he
                  obtain ⟨es1, o1⟩ := p
                  simp only at he; subst he
                  obtain ⟨r1, ri, mes, clock, rfl, _, _, rfl, _, g3, g4, g5⟩ := mapAt_sound h hx hm
                  exact ⟨mes, .inr ⟨_, _, rfl, g3⟩, g4, g5⟩
              · cases he
            have hfs := findE_sound hk es mes.toList 0 r hks hvs hf
            have hrun0 : ∀ (r : Option (Nat × Value)), Instr.findNow d k' mes.toList 0 = some r → (Instr.lookup t x' k' ok).run E.P w = .ok (match r with
                | some (_, v) => if ok then .tuple #[v, .bool true] else v
                | none => if ok then .tuple #[z, .bool false] else z) w := by
              intro r hr
              rcases hget with ⟨rfl, rfl⟩ | ⟨b, clock, rfl, hb⟩
              · cases r with
                | none => simp [Instr.lookup, run_underlying hu, hck, findKey_run hud hr, run_zero_some hz]
                | some p => simp [Instr.findNow] at hr
              · cases r with
                | none => simp [Instr.lookup, run_underlying hu, getMap_run hb, hck, findKey_run hud hr, run_zero_some hz]
                | some p => obtain ⟨q, u⟩ := p; simp [Instr.lookup, run_underlying hu, getMap_run hb, hck, findKey_run hud hr]
            cases r with
            | none =>
              simp only at hfs hv
              refine ⟨v, ?_, ?_⟩
              · rw [hrun0 none hfs]
                subst hv
                rfl
              · subst hv
                have hzz := VR.plain (M := E.M) (φ := φ) (hz0 _ _ hz)
                cases ok
                · exact hzz
                · exact .tuple _ _ (.cons _ _ _ _ hzz (.cons _ _ _ _ (.bool _) .nil))
            | some j =>
              obtain ⟨e, p, _, g2, g3, g4, g5, _⟩ := hfs
              simp only at hv
              rw [Nat.sub_zero] at g2 g3
              have hval : ((es[j]?.map fun (p : Value × Value) => p.2).getD undef) = p.2 := by simp [g3]
              rw [hval] at hv
              refine ⟨if ok then .tuple #[e.val, .bool true] else e.val, ?_, ?_⟩
              · rw [hrun0 _ g4]
              · subst hv
                cases ok
                · exact g5
                · exact .tuple _ _ (.cons _ _ _ _ g5 (.cons _ _ _ _ (.bool _) .nil))
  · cases hv

theorem sameBits_of_now {d : TypeDesc} {a b : Value} (h : Instr.sameNow d a b = some true) : Instr.sameBits 10000 b a = true := by
  unfold Instr.sameNow at h
  split at h
  · split at h
    · rename_i hk; simp at h; subst hk; subst h; simp [Instr.sameBits]
    · cases h
  · have h' := Option.some.inj h
    have := bytes_eq_of _ _ h'
    subst this
    simp only [Instr.sameBits]
    exact h'
  · simp at h; subst h; simp [Instr.sameBits]
  · cases h

theorem mapUpdate_sound (h : Rel E H φ w) {t : TypeId} {m k x m' k' x' : Value} (hm : VR E.M φ m m') (hk : VR E.M φ k k') (hx : VR E.M φ x x') (hv : evMapUpdate E t m k x H = some H') :
    ∃ w', (Instr.mapUpdate t m' k' x').run E.P w = .ok () w' ∧ Out E H H' φ φ w w' := by
  unfold evMapUpdate at hv
  split at hv
  · rename_i kt et r hu
    cases hd : plainKey E kt with
    | none => simp [hd] at hv
    | some d =>
      simp only [hd, Option.bind_some] at hv
      split at hv
      · rename_i es hma
        cases hf : findE d k es 0 with
        | none => simp [hf] at hv
        | some i =>
          simp only [hf, Option.map_some, Option.some.injEq] at hv
          obtain ⟨hud, hck, _⟩ := plainKey_run hd
          obtain ⟨r1, ri, mes, clock, rfl, hH, hφ, rfl, g2, g3, g4, g5⟩ := mapAt_sound h hm hma
          rw [show E.M + r1 - E.M = r1 by omega] at hv
          have hlt : ri.blk < w.heap.size := (Array.getElem?_eq_some_iff.1 g3).1
          have hfs := findE_sound hk es mes.toList 0 i g4 g5 hf
          cases i with
          | none =>
            simp only at hfs hv
            subst hv
            refine ⟨setBlk w ri.blk (.map (mes.push { key := k', val := x', born := clock }) (clock + 1)), ?_, ?_⟩
            · simp only [Instr.mapUpdate, Sem.run_bind, run_underlying hu, Result.andThen_ok, getMap_run g3, hck, findKey_run hud hfs, setMap_run _ g3]
            · refine Out.upd h hH rfl hφ ⟨ri, _, _, hφ, g2, setBlk_get hlt, ?_, ?_⟩
              · simp only [List.map_append, Array.toList_push]
                exact g4.append (.cons _ _ _ _ hk .nil)
              · simp only [List.map_append, Array.toList_push]
                exact g5.append (.cons _ _ _ _ hx .nil)
          | some j =>
            obtain ⟨e, p, _, e2, e3, e4, e5, e6⟩ := hfs
            simp only at hv
            subst hv
            rw [Nat.sub_zero] at e2
            have e2' : mes[j]? = some e := by simpa using e2
            refine ⟨setBlk w ri.blk (.map (mes.modify j fun e => { e with key := k', val := x' }) clock), ?_, ?_⟩
            · have hks : (Instr.keyThatStays e.key k').run E.P w = .ok k' w := by
                unfold Instr.keyThatStays
                rw [if_pos (sameBits_of_now e6)]; rfl
              simp only [Instr.mapUpdate, Sem.run_bind, run_underlying hu, Result.andThen_ok, getMap_run g3, hck, findKey_run hud e4, e2', Option.map_some, Option.getD_some, hks, setMap_run _ g3]
            · have hsetm : ∀ {β : Type} (f : MapEntry → β) (y : β), f { e with key := k', val := x' } = y → (mes.modify j fun e => { e with key := k', val := x' }).toList.map f = (mes.toList.map f).set j y := by
                intro β f y hy
                apply List.ext_getElem?
                intro q
                rw [List.getElem?_map, Array.getElem?_toList, Array.getElem?_modify, List.getElem?_set, List.getElem?_map, Array.getElem?_toList]
                by_cases hq : j = q
                · subst hq
                  have hjl : j < mes.size := (Array.getElem?_eq_some_iff.1 e2').1
                  rw [if_pos rfl, if_pos rfl, e2', if_pos (by simpa using hjl)]
                  exact congrArg some hy
                · simp [hq]
              refine Out.upd h hH rfl hφ ⟨ri, _, _, hφ, g2, setBlk_get hlt, ?_, ?_⟩
              · rw [List.map_set, hsetm _ k' rfl]
                exact g4.set hk j
              · rw [List.map_set, hsetm _ x' rfl]
                exact g5.set hx j
      · cases hv
  · cases hv

theorem VRs.eraseIdx {M : Nat} {l l' : List Value} (h : VRs M φ l l') (i : Nat) : VRs M φ (l.eraseIdx i) (l'.eraseIdx i) := by
  induction l generalizing l' i with
  | nil => cases h; simpa using VRs.nil
  | cons x xs ih => cases h with
    | cons _ _ _ _ h hs => cases i with
      | zero => exact hs
      | succ i => exact .cons _ _ _ _ h (ih hs i)

theorem map_eraseIdx {α β : Type} (f : α → β) : ∀ (l : List α) (i : Nat), (l.eraseIdx i).map f = (l.map f).eraseIdx i
  | [], _ => rfl
  | _ :: _, 0 => rfl
  | x :: xs, i + 1 => by simp [map_eraseIdx f xs i]

theorem delete_sound (h : Rel E H φ w) {argTypes : Array TypeId} {ty : TypeId} {args : List Value} {args' : Array Value} (ha : VRs E.M φ args args'.toList) (hv : evDelete E argTypes args H = some H') :
    ∃ w', (Builtin.delete_ argTypes ty args').run E.P w = .ok undef w' ∧ Out E H H' φ φ w w' := by
  unfold evDelete at hv
  split at hv
  · rename_i t r k h0
    obtain ⟨m', k', rfl, hm, hk⟩ := argsTwo rfl ha
    split at hv
    · rename_i kt et hu
      cases hd : plainKey E kt with
      | none => simp [hd] at hv
      | some d =>
        simp only [hd, Option.bind_some] at hv
        split at hv
        · rename_i es hma
          cases hf : findE d k es 0 with
          | none => simp [hf] at hv
          | some i =>
            simp only [hf, Option.map_some, Option.some.injEq] at hv
            obtain ⟨hud, hck, _⟩ := plainKey_run hd
            obtain ⟨r1, ri, mes, clock, rfl, hH, hφ, rfl, g2, g3, g4, g5⟩ := mapAt_sound h hm hma
            rw [show E.M + r1 - E.M = r1 by omega] at hv
            have hlt : ri.blk < w.heap.size := (Array.getElem?_eq_some_iff.1 g3).1
            have hfs := findE_sound hk es mes.toList 0 i g4 g5 hf
            cases i with
            | none =>
              simp only at hfs hv
              subst hv
              refine ⟨w, ?_, Out.refl h⟩
              have hself := setBlk_self g3
              simp [Builtin.delete_, h0, run_underlying hu, getMap_run g3, hck, findKey_run hud hfs, setMap_run _ g3, undef, hself]
            | some j =>
              obtain ⟨e, p, _, e2, e3, e4, e5, e6⟩ := hfs
              simp only at hv
              subst hv
              refine ⟨setBlk w ri.blk (.map (mes.eraseIdxIfInBounds j) clock), ?_, ?_⟩
              · simp [Builtin.delete_, h0, run_underlying hu, getMap_run g3, hck, findKey_run hud e4, setMap_run _ g3, undef, setBlk]
              · rw [Nat.sub_zero] at e2
                have hjl : j < mes.size := by
                  have := (List.getElem?_eq_some_iff.1 e2).1; simpa using this
                have her : (mes.eraseIdxIfInBounds j).toList = mes.toList.eraseIdx j := by
                  unfold Array.eraseIdxIfInBounds; rw [dif_pos hjl]; simp
                refine Out.upd h hH rfl hφ ⟨ri, _, _, hφ, g2, setBlk_get hlt, ?_, ?_⟩
                · rw [her, map_eraseIdx, map_eraseIdx]; exact g4.eraseIdx j
                · rw [her, map_eraseIdx, map_eraseIdx]; exact g5.eraseIdx j
        · cases hv
    · cases hv
  · cases hv

end Go.Proofs.Ytmjcfcbjccepnaa.Eng
