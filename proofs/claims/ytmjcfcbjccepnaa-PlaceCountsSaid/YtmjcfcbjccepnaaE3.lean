/-
  How the memory of the abstract machine stands for the real one; reading, storing, laying.
-/
import Derived.Test.YtmjcfcbjccepnaaE2
namespace Go.Proofs.Ytmjcfcbjccepnaa.Eng
open Go Go.RowKit
set_option linter.unusedSimpArgs false
set_option linter.unusedVariables false

/-- An old value: whatever the new objects are, it stands for itself. -/
def OldV (M : Nat) (v : Value) : Prop := ∀ φ : Rep, VR M φ v v

structure EnvOk (E : Env) : Prop where
  mixed : E.P.follows .mixedOrders = true
  le : E.w0.heap.size ≤ E.M
  glob : E.P.globals.size ≤ E.M
  old : ∀ a v, E.w0.cell? a = some v → OldV E.M v

/-- No cell below n is frozen. -/
def NoFz (fz : Nat × Nat) (n : Nat) : Prop := ∀ i, i < n → ¬ (fz.1 ≤ i ∧ i < fz.2)

def ObjRel (E : Env) (φ : Rep) (w : World) (r : Nat) : AObj → Prop
  | .cells c k _ => ∃ ri cs ty fz, φ r = some ri ∧ E.w0.heap.size ≤ ri.blk ∧ w.heap[ri.blk]? = some (.cells cs ty fz) ∧ cs.size = ri.base + ri.row ∧ c.length ≤ ri.row ∧ ri.k = k ∧ NoFz fz cs.size ∧
      VRs E.M φ c ((cs.toList.drop ri.base).take c.length)
  | .map es _ => ∃ ri mes clock, φ r = some ri ∧ E.w0.heap.size ≤ ri.blk ∧ w.heap[ri.blk]? = some (.map mes clock) ∧ VRs E.M φ (es.map fun p => p.1) (mes.toList.map fun e => e.key) ∧ VRs E.M φ (es.map fun p => p.2) (mes.toList.map fun e => e.val)
  | .siter s pos => ∃ ri, φ r = some ri ∧ E.w0.heap.size ≤ ri.blk ∧ w.heap[ri.blk]? = some (.stringIter s pos)
  | .miter _ _ => False
  | .dead => True

structure Rel (E : Env) (H : AH) (φ : Rep) (w : World) : Prop where
  obj : ∀ r o, H[r]? = some o → ObjRel E φ w r o
  inj : ∀ r r' o o' ri ri', H[r]? = some o → H[r']? = some o' → r ≠ r' → o.own = true → o'.live = true → φ r = some ri → φ r' = some ri' → ri.blk ≠ ri'.blk
  below : Below E.w0.heap.size E.w0 w
  fresh : ∀ r, H.length ≤ r → φ r = none

structure Out (E : Env) (H H' : AH) (φ φ' : Rep) (w w' : World) : Prop where
  dom : ∀ r, r < H.length → φ' r = φ r
  len : H.length ≤ H'.length
  rel : Rel E H' φ' w'
  size : w.heap.size ≤ w'.heap.size
  frame : ∀ b, b < w.heap.size → (∀ r o ri, H[r]? = some o → o.own = true → φ r = some ri → ri.blk ≠ b) → w'.heap[b]? = w.heap[b]?
  newblk : ∀ r o ri, H.length ≤ r → H'[r]? = some o → o.live = true → φ' r = some ri → w.heap.size ≤ ri.blk ∨ ∃ r0 o0 ri0, H[r0]? = some o0 ∧ o0.own = true ∧ φ r0 = some ri0 ∧ ri0.blk = ri.blk
  ownm : ∀ r o', r < H.length → H'[r]? = some o' → o'.own = true → ∃ o, H[r]? = some o ∧ o.own = true
  livem : ∀ r o', r < H.length → H'[r]? = some o' → o'.live = true → ∃ o, H[r]? = some o ∧ o.live = true

variable {E : Env} {H H' H'' : AH} {φ φ' φ'' : Rep} {w w' w'' : World}

theorem AObj.own_live {o : AObj} (h : o.own = true) : o.live = true := by cases o <;> simp_all [AObj.own, AObj.live]

theorem Out.ext (h : Out E H H' φ φ' w w') (hf : Rel E H φ w) : Ext φ φ' := by
  intro r ri hr
  by_cases hl : r < H.length
  · rw [h.dom r hl]; exact hr
  · rw [hf.fresh r (by omega)] at hr; cases hr

theorem Out.refl (h : Rel E H φ w) : Out E H H φ φ w w where
  dom _ _ := rfl
  len := Nat.le_refl _
  rel := h
  size := Nat.le_refl _
  frame _ _ _ := rfl
  newblk r o ri hr ho := by
    rw [List.getElem?_eq_none (by omega)] at ho; cases ho
  ownm r o' _ ho hown := ⟨o', ho, hown⟩
  livem r o' _ ho hl := ⟨o', ho, hl⟩

theorem Out.trans (h : Out E H H' φ φ' w w') (k : Out E H' H'' φ' φ'' w' w'') : Out E H H'' φ φ'' w w'' where
  dom r hr := (k.dom r (Nat.lt_of_lt_of_le hr h.len)).trans (h.dom r hr)
  len := Nat.le_trans h.len k.len
  rel := k.rel
  size := Nat.le_trans h.size k.size
  frame b hb hn := by
    rw [k.frame b (Nat.lt_of_lt_of_le hb h.size) ?_, h.frame b hb hn]
    intro r o ri hr ho hφ hblk
    by_cases hl : r < H.length
    · obtain ⟨o0, h0, ho0⟩ := h.ownm r o hl hr ho
      exact hn r o0 ri h0 ho0 ((h.dom r hl).symm.trans hφ) hblk
    · rcases h.newblk r o ri (by omega) hr (AObj.own_live ho) hφ with h1 | ⟨r0, o0, ri0, h1, h2, h3, h4⟩
      · omega
      · exact hn r0 o0 ri0 h1 h2 h3 (h4.trans hblk)
  newblk r o ri hr ho hown hφ := by
    by_cases hl : r < H'.length
    · obtain ⟨o1, h1, ho1⟩ := k.livem r o hl ho hown
      have hφ' : φ' r = some ri := (k.dom r hl).symm.trans hφ
      exact h.newblk r o1 ri hr h1 ho1 hφ'
    · rcases k.newblk r o ri (by omega) ho hown hφ with h1 | ⟨r0, o0, ri0, h1, h2, h3, h4⟩
      · exact .inl (Nat.le_trans h.size h1)
      · by_cases hl0 : r0 < H.length
        · obtain ⟨o1, h5, ho1⟩ := h.ownm r0 o0 hl0 h1 h2
          exact .inr ⟨r0, o1, ri0, h5, ho1, (h.dom r0 hl0).symm.trans h3, h4⟩
        · rw [← h4]
          exact h.newblk r0 o0 ri0 (by omega) h1 (AObj.own_live h2) h3
  ownm r o' hr ho hown := by
    obtain ⟨o1, h1, ho1⟩ := k.ownm r o' (Nat.lt_of_lt_of_le hr h.len) ho hown
    exact h.ownm r o1 hr h1 ho1
  livem r o' hr ho hl := by
    obtain ⟨o1, h1, ho1⟩ := k.livem r o' (Nat.lt_of_lt_of_le hr h.len) ho hl
    exact h.livem r o1 hr h1 ho1

/-! ### Addresses -/
inductive AR (M : Nat) (φ : Rep) : Addr → Addr → Prop
  | old (a : Addr) (h : a.block < M) : AR M φ a a
  | new (r off : Nat) (ri : RI) (h : φ r = some ri) : AR M φ ⟨M + r, off, none⟩ ⟨ri.blk, ri.base + off, none⟩

theorem add_lit (b o n : Nat) : (⟨b, o, none⟩ : Addr).add n = ⟨b, o + n, none⟩ := by
  unfold Addr.add; split <;> simp_all

theorem AR.add {M : Nat} {a a' : Addr} (h : AR M φ a a') (n : Nat) : AR M φ (a.add n) (a'.add n) := by
  cases h with
  | old _ h => exact .old _ (by unfold Addr.add; split <;> exact h)
  | new r off ri h => rw [add_lit, add_lit, Nat.add_assoc]; exact .new r (off + n) ri h

theorem AR.vr {M : Nat} {a a' : Addr} (h : AR M φ a a') : VR M φ (.pointer (some a)) (.pointer (some a')) := by
  cases h with
  | old _ h => exact .ptrOld _ h
  | new r off ri h => exact .ptrNew r off ri h

theorem VR.addr {M : Nat} {a : Addr} {v' : Value} (h : VR M φ (.pointer (some a)) v') : ∃ a', v' = .pointer (some a') ∧ AR M φ a a' := by
  cases h with
  | ptrOld a h => exact ⟨_, rfl, .old _ h⟩
  | ptrNew r off ri h => exact ⟨_, rfl, .new r off ri h⟩

theorem AR.mono {M : Nat} {a a' : Addr} (h : AR M φ a a') (hx : Ext φ φ') : AR M φ' a a' := by
  cases h with
  | old _ h => exact .old _ h
  | new r off ri h => exact .new r off ri (hx _ _ h)

theorem addr_add_zero (a : Addr) : a.add 0 = a := by simp [Addr.add]
theorem addr_add_add (a : Addr) (i j : Nat) : (a.add i).add j = a.add (i + j) := by
  unfold Addr.add
  by_cases h1 : i = 0 <;> by_cases h2 : j = 0 <;> simp_all <;> omega

/-! ### Reading -/
theorem cell_old (hE : EnvOk E) (h : Rel E H φ w) {a : Addr} {v : Value} (hv : E.w0.cell? a = some v) : w.cell? a = some v :=
  (h.below.cell (World.block_lt_of_cell? E.w0 a hv)).trans hv

theorem ld_sound (hE : EnvOk E) (h : Rel E H φ w) {a a' : Addr} (ha : AR E.M φ a a') {v : Value} (hv : ld E H a = some v) : ∃ v', w.cell? a' = some v' ∧ VR E.M φ v v' := by
  unfold ld at hv
  cases ha with
  | old _ ho =>
    rw [if_pos ho] at hv
    exact ⟨v, cell_old hE h hv, hE.old _ _ hv φ⟩
  | new r off ri hφ =>
    rw [if_neg (by simp)] at hv
    simp only [Option.isSome_none, Bool.false_eq_true, if_false] at hv
    rw [show E.M + r - E.M = r by omega] at hv
    split at hv
    · rename_i c k own hr
      obtain ⟨ri', cs, ty, fz, h1, _, h3, h4, h5, _, _, h8⟩ := h.obj r _ hr
      obtain rfl : ri = ri' := Option.some.inj (hφ.symm.trans h1)
      obtain ⟨v', hv', hr'⟩ := h8.get off v hv
      refine ⟨v', ?_, hr'⟩
      have hlt : off < c.length := (List.getElem?_eq_some_iff.1 hv).1
      rw [List.getElem?_take, if_pos hlt, List.getElem?_drop] at hv'
      simp [World.cell?, h3]
      simpa using hv'
    · cases hv

theorem ldc_sound (hE : EnvOk E) (h : Rel E H φ w) {a a' : Addr} (ha : AR E.M φ a a') : ∀ (n i : Nat) (vs : List Value), ldc E H a i n = some vs →
    ∃ vs', vs'.length = n ∧ VRs E.M φ vs vs' ∧ ∀ j v, vs'[j]? = some v → w.cell? (a'.add (i + j)) = some v
  | 0, i, vs, hv => by
    simp [ldc] at hv; subst hv; exact ⟨[], rfl, .nil, fun j v hj => by simp at hj⟩
  | n + 1, i, vs, hv => by
    simp only [ldc] at hv
    cases h1 : ld E H (a.add i) with
    | none => simp [h1] at hv
    | some x =>
      cases h2 : ldc E H a (i + 1) n with
      | none => simp [h1, h2] at hv
      | some r =>
        simp [h1, h2] at hv; subst hv
        obtain ⟨x', hx, hxr⟩ := ld_sound hE h (ha.add i) h1
        obtain ⟨r', hl, hr, hc⟩ := ldc_sound hE h ha n (i + 1) r h2
        refine ⟨x' :: r', by simp [hl], .cons _ _ _ _ hxr hr, fun j v hj => ?_⟩
        cases j with
        | zero => simp at hj; subst hj; exact hx
        | succ j => rw [show i + (j + 1) = i + 1 + j by omega]; exact hc j v (by simpa using hj)

theorem run_isAgg_some {t : TypeId} {g : Bool} (h : isAggT E t = some g) (w : World) : (isAgg t).run E.P w = .ok g w := by
  unfold isAggT at h
  unfold isAgg
  cases hu : E.P.underlying t with
  | none => simp [hu] at h
  | some d =>
    simp only [Sem.run_bind, run_underlying hu, Result.andThen]
    rw [hu] at h
    cases d <;> simp at h <;> subst h <;> rfl

theorem run_size_some {t : TypeId} {n : Nat} (h : sizeT E t = some n) (w : World) : (Go.sizeOf t).run E.P w = .ok n w := by
  unfold sizeT at h
  cases hi : E.P.info? t with
  | none => simp [hi] at h
  | some i =>
    simp [hi] at h
    simp [Go.sizeOf, typeInfo, hi, Result.andThen, h]

theorem run_zero_some {t : TypeId} {z : Value} (h : zeroT E t = some z) (w : World) : (zeroValue t).run E.P w = .ok z w := by
  have h := (zeroT_old E h).1
  cases hi : E.P.info? t with
  | none => simp [hi] at h
  | some i =>
    simp [hi] at h
    simp [zeroValue, typeInfo, hi, Result.andThen, h]

theorem ldVar_sound (hE : EnvOk E) (h : Rel E H φ w) {a a' : Addr} (ha : AR E.M φ a a') {t : TypeId} {v : Value} (hv : ldVar E H t a = some v) :
    ∃ v', (loadVar t a').run E.P w = .ok v' w ∧ VR E.M φ v v' := by
  unfold ldVar at hv
  cases hg : isAggT E t with
  | none => simp [hg] at hv
  | some g =>
    cases g with
    | false =>
      simp [hg] at hv
      obtain ⟨v', h1, h2⟩ := ld_sound hE h ha hv
      refine ⟨v', ?_, h2⟩
      simp [loadVar, run_isAgg_some hg, Result.andThen, h1]
    | true =>
      simp [hg] at hv
      cases hs : sizeT E t with
      | none => simp [hs] at hv
      | some n =>
        simp [hs] at hv
        obtain ⟨cs, hcs, rfl⟩ := hv
        obtain ⟨vs', hl, hr, hc⟩ := ldc_sound hE h ha n 0 cs hcs
        refine ⟨.agg vs'.toArray, ?_, .agg _ _ (by simpa using hr)⟩
        have := run_loadCells_list (P := E.P) w a' vs' (fun j v hj => by simpa using hc j v hj)
        rw [hl] at this
        simp [loadVar, run_isAgg_some hg, run_size_some hs, Result.andThen, this]

/-! ### Storing -/
def setBlk (w : World) (g : Nat) (o : Obj) : World := { w with heap := w.heap.setIfInBounds g o }

theorem setCell_setBlk {w : World} {g : Nat} {cur : Array Value} {t : TypeId} {fz : Nat × Nat} (hg : w.heap[g]? = some (.cells cur t fz)) (o : Nat) (v : Value) :
    w.setCell ⟨g, o, none⟩ v = setBlk w g (.cells (cur.setIfInBounds o v) t fz) := by
  unfold World.setCell setBlk
  congr 1
  apply Array.ext_getElem?
  intro i
  rw [Array.getElem?_modify, Array.getElem?_setIfInBounds]
  by_cases h : g = i
  · subst h
    have hlt : g < w.heap.size := (Array.getElem?_eq_some_iff.1 hg).1
    rw [hg]
    simp [hlt]
  · simp [h]

theorem setBlk_get {w : World} {g : Nat} {o : Obj} (hg : g < w.heap.size) : (setBlk w g o).heap[g]? = some o := by simp [setBlk, hg]
theorem setBlk_ne {w : World} {g b : Nat} {o : Obj} (h : g ≠ b) : (setBlk w g o).heap[b]? = w.heap[b]? := by simp [setBlk, h]
theorem setBlk_size {w : World} {g : Nat} {o : Obj} : (setBlk w g o).heap.size = w.heap.size := by simp [setBlk]
theorem setBlk_setBlk {w : World} {g : Nat} {o o' : Obj} : setBlk (setBlk w g o) g o' = setBlk w g o' := by simp [setBlk]
theorem setBlk_self {w : World} {g : Nat} {o : Obj} (h : w.heap[g]? = some o) : setBlk w g o = w := by
  unfold setBlk
  rw [show w.heap.setIfInBounds g o = w.heap from ?_]
  apply Array.ext_getElem?
  intro i
  rw [Array.getElem?_setIfInBounds]
  by_cases e : g = i
  · subst e; rw [h]; simp [(Array.getElem?_eq_some_iff.1 h).1]
  · simp [e]

/-- The cells of an array written over. -/
def overA (cur : Array Value) (o : Nat) (vs : List Value) : Array Value := (overwrite cur.toList o vs).toArray

theorem overwrite_nil (c : List Value) (o : Nat) : overwrite c o [] = c := by simp [overwrite]

theorem overwrite_get (c vs : List Value) (o i : Nat) (h : o + vs.length ≤ c.length) : (overwrite c o vs)[i]? = if i < o then c[i]? else if i < o + vs.length then vs[i - o]? else c[i]? := by
  unfold overwrite
  by_cases h1 : i < o
  · rw [if_pos h1, List.append_assoc, List.getElem?_append_left (by simp; omega), List.getElem?_take, if_pos h1]
  · rw [if_neg h1, List.append_assoc, List.getElem?_append_right (by simp; omega)]
    have e : (c.take o).length = o := by simp; omega
    rw [e]
    by_cases h2 : i < o + vs.length
    · rw [if_pos h2, List.getElem?_append_left (by omega)]
    · rw [if_neg h2, List.getElem?_append_right (by omega), List.getElem?_drop]
      congr 1; omega

theorem overwrite_cons (c : List Value) (o : Nat) (v : Value) (vs : List Value) (h : o + (vs.length + 1) ≤ c.length) : overwrite (c.set o v) (o + 1) vs = overwrite c o (v :: vs) := by
  apply List.ext_getElem?
  intro i
  rw [overwrite_get _ _ _ _ (by simp; omega), overwrite_get _ _ _ _ (by simpa using h)]
  simp only [List.length_cons]
  by_cases h1 : i < o
  · rw [if_pos (by omega), if_pos h1, List.getElem?_set, if_neg (by omega)]
  · by_cases h2 : i = o
    · subst h2
      rw [if_pos (by omega), if_neg (by omega), if_pos (by omega), List.getElem?_set, if_pos rfl, if_pos (by omega)]
      simp
    · rw [if_neg (by omega), if_neg h1]
      by_cases h3 : i < o + 1 + vs.length
      · rw [if_pos h3, if_pos (by omega), show i - o = (i - (o + 1)) + 1 by omega, List.getElem?_cons_succ]
      · rw [if_neg h3, if_neg (by omega), List.getElem?_set, if_neg (by omega)]

theorem overwrite_length (c vs : List Value) (o : Nat) (h : o + vs.length ≤ c.length) : (overwrite c o vs).length = c.length := by
  simp [overwrite]; omega

theorem run_sc (P : Program) (g : Nat) (t : TypeId) (fz : Nat × Nat) (o : Nat) : ∀ (vs : List Value) (i : Nat) (cur : Array Value) (w : World), w.heap[g]? = some (.cells cur t fz) → NoFz fz cur.size →
    o + i + vs.length ≤ cur.size → vs.all Value.oneCell' = true → (storeCells ⟨g, o, none⟩ vs i).run P w = .ok () (setBlk w g (.cells (overA cur (o + i) vs) t fz))
  | [], i, cur, w, hg, _, _, _ => by
    simp only [storeCells, Sem.run_pure, overA, overwrite_nil, Array.toArray_toList]
    rw [setBlk_self hg]
  | v :: vs, i, cur, w, hg, hf, hl, h1 => by
    simp only [List.all_cons, Bool.and_eq_true] at h1
    simp only [List.length_cons] at hl
    have hlt : o + i < cur.size := by omega
    have hc : w.cell? ⟨g, o + i, none⟩ = some cur[o + i] := by simp [World.cell?, hg, hlt]
    have hz : w.frozen? ⟨g, o + i, none⟩ = false := by
      simp only [World.frozen?, hg]
      have := hf (o + i) hlt
      simp only [Bool.and_eq_false_iff, decide_eq_false_iff_not]
      omega
    simp only [storeCells, Sem.run_bind, add_lit, run_store P w _ v .plain h1.1, hc, hz, Result.andThen]
    simp only [Bool.false_eq_true, if_false]
    rw [setCell_setBlk hg]
    have hsz : g < w.heap.size := (Array.getElem?_eq_some_iff.1 hg).1
    rw [run_sc P g t fz o vs (i + 1) (cur.setIfInBounds (o + i) v) _ (setBlk_get hsz) (by simpa using hf) (by simp; omega) h1.2, setBlk_setBlk]
    congr 3
    unfold overA
    congr 1
    rw [show o + (i + 1) = o + i + 1 by omega]
    simpa using overwrite_cons cur.toList (o + i) v vs (by simp; omega)

theorem ObjRel.mono {r : Nat} {o : AObj} (hx : Ext φ φ') (h : ObjRel E φ w r o) (hb : ∀ ri, φ r = some ri → w'.heap[ri.blk]? = w.heap[ri.blk]?) : ObjRel E φ' w' r o := by
  cases o with
  | cells c k own =>
    obtain ⟨ri, cs, ty, fz, h1, h2, h3, h4, h5, h6, h7, h8⟩ := h
    exact ⟨ri, cs, ty, fz, hx _ _ h1, h2, (hb ri h1).trans h3, h4, h5, h6, h7, h8.mono hx⟩
  | map es own =>
    obtain ⟨ri, mes, clock, h1, h2, h3, h4, h5⟩ := h
    exact ⟨ri, mes, clock, hx _ _ h1, h2, (hb ri h1).trans h3, h4.mono hx, h5.mono hx⟩
  | siter s pos =>
    obtain ⟨ri, h1, h2, h3⟩ := h
    exact ⟨ri, hx _ _ h1, h2, (hb ri h1).trans h3⟩
  | miter m l => exact h.elim
  | dead => trivial

theorem ObjRel.blk {r : Nat} {o : AObj} (h : ObjRel E φ w r o) (hl : o.live = true) : ∃ ri, φ r = some ri ∧ E.w0.heap.size ≤ ri.blk ∧ ri.blk < w.heap.size := by
  cases o with
  | cells c k own =>
    obtain ⟨ri, cs, ty, fz, h1, h2, h3, h4, h5, h6, h7, h8⟩ := h
    exact ⟨ri, h1, h2, (Array.getElem?_eq_some_iff.1 h3).1⟩
  | map es own =>
    obtain ⟨ri, mes, clock, h1, h2, h3, h4, h5⟩ := h
    exact ⟨ri, h1, h2, (Array.getElem?_eq_some_iff.1 h3).1⟩
  | siter s pos =>
    obtain ⟨ri, h1, h2, h3⟩ := h
    exact ⟨ri, h1, h2, (Array.getElem?_eq_some_iff.1 h3).1⟩
  | miter m l => exact h.elim
  | dead => simp [AObj.live] at hl


/-- An owned object turned in place. -/
theorem Out.upd (h : Rel E H φ w) {r : Nat} {o o' : AObj} {ri : RI} {O : Obj} (hr : H[r]? = some o) (ho : o.own = true) (hφ : φ r = some ri) (ho' : ObjRel E φ (setBlk w ri.blk O) r o') :
    Out E H (H.set r o') φ φ w (setBlk w ri.blk O) := by
  have hlt : r < H.length := (List.getElem?_eq_some_iff.1 hr).1
  obtain ⟨ri1, hb1, hb2, hb3⟩ := (h.obj r o hr).blk (AObj.own_live ho)
  obtain rfl : ri = ri1 := Option.some.inj (hφ.symm.trans hb1)
  refine ⟨fun _ _ => rfl, by simp, ⟨?_, ?_, ?_, ?_⟩, by simp [setBlk], ?_, ?_, ?_, ?_⟩
  · intro r1 o1 h1
    rw [List.getElem?_set] at h1
    by_cases e : r = r1
    · subst e
      simp [hlt] at h1
      subst h1; exact ho'
    · simp [e] at h1
      cases hl : o1.live with
      | false => cases o1 <;> simp [AObj.live] at hl; trivial
      | true =>
        refine (h.obj r1 o1 h1).mono (Ext.refl _) (fun ri1 hri => setBlk_ne ?_)
        exact h.inj r r1 o o1 ri ri1 hr h1 e ho hl hφ hri
  · intro r1 r2 o1 o2 ri1 ri2 h1 h2 hne hown hlive hφ1 hφ2
    rw [List.getElem?_set] at h1 h2
    by_cases e1 : r = r1
    · subst e1
      have e2 : ¬ r = r2 := hne
      simp [e2] at h2
      exact h.inj r r2 o o2 ri1 ri2 hr h2 e2 ho hlive hφ1 hφ2
    · simp [e1] at h1
      by_cases e2 : r = r2
      · subst e2
        exact h.inj r1 r o1 o ri1 ri2 h1 hr hne hown (AObj.own_live ho) hφ1 hφ2
      · simp [e2] at h2
        exact h.inj r1 r2 o1 o2 ri1 ri2 h1 h2 hne hown hlive hφ1 hφ2
  · exact ⟨h.below.os, h.below.tape, h.below.output, by rw [setBlk_size]; exact h.below.size, fun k hk => (setBlk_ne (by omega)).trans (h.below.block k hk)⟩
  · intro r1 h1; exact h.fresh r1 (by simpa using h1)
  · intro b hb hn; exact setBlk_ne (hn r o ri hr ho hφ)
  · intro r1 o1 ri1 h1 h2; rw [List.getElem?_eq_none (by simpa using h1)] at h2; cases h2
  · intro r1 o1 h1 h2 h3
    rw [List.getElem?_set] at h2
    by_cases e : r = r1
    · subst e; exact ⟨o, hr, ho⟩
    · simp [e] at h2; exact ⟨o1, h2, h3⟩
  · intro r1 o1 h1 h2 h3
    rw [List.getElem?_set] at h2
    by_cases e : r = r1
    · subst e; exact ⟨o, hr, AObj.own_live ho⟩
    · simp [e] at h2; exact ⟨o1, h2, h3⟩

theorem stc_sound (h : Rel E H φ w) {a a' : Addr} (ha : AR E.M φ a a') {vs vs' : List Value} (hvs : VRs E.M φ vs vs') (hs : stc E H a vs = some H') :
    ∃ w', (storeCells a' vs' 0).run E.P w = .ok () w' ∧ Out E H H' φ φ w w' := by
  unfold stc at hs
  split at hs
  · cases hs
  · rename_i hold
    cases ha with
    | old _ ho => exact absurd (.inl ho) hold
    | new r off ri hφ =>
      rw [show E.M + r - E.M = r by omega] at hs
      split at hs
      · rename_i c k hr
        split at hs
        · rename_i hlen
          cases hs
          obtain ⟨ri', cs, ty, fz, h1, h2, h3, h4, h5, h6, h7, h8⟩ := h.obj r _ hr
          obtain rfl : ri = ri' := Option.some.inj (hφ.symm.trans h1)
          have hlen2 : off + vs.length ≤ c.length := hlen.1
          have hvl := hvs.length
          have hcl : c.length ≤ ri.row := h5
          refine ⟨_, run_sc E.P ri.blk ty fz (ri.base + off) vs' 0 cs w h3 h7 (by omega) (by rw [← hvs.oneCell]; exact hlen.2), ?_⟩
          refine Out.upd h hr rfl hφ ?_
          have hlt : ri.blk < w.heap.size := (Array.getElem?_eq_some_iff.1 h3).1
          have hsz : (overA cs (ri.base + off + 0) vs').size = cs.size := by
            unfold overA; simp only [List.size_toArray]; rw [overwrite_length _ _ _ (by simp; omega)]; simp
          refine ⟨ri, _, ty, fz, hφ, h2, setBlk_get hlt, by rw [hsz]; exact h4, by rw [overwrite_length _ _ _ hlen2]; exact h5, h6, by rw [hsz]; exact h7, ?_⟩
          rw [overwrite_length _ _ _ hlen2]
          have key : ((overA cs (ri.base + off + 0) vs').toList.drop ri.base).take c.length = overwrite ((cs.toList.drop ri.base).take c.length) off vs' := by
            apply List.ext_getElem?
            intro i
            by_cases hi : i < c.length
            · rw [List.getElem?_take, if_pos hi, List.getElem?_drop]
              unfold overA
              simp only [Nat.add_zero]
              rw [overwrite_get _ _ _ _ (by simp; omega), overwrite_get _ _ _ _ (by simp; omega)]
              rw [List.getElem?_take, if_pos hi, List.getElem?_drop]
              by_cases h9 : i < off
              · rw [if_pos (by omega), if_pos h9]
              · rw [if_neg (by omega), if_neg h9]
                by_cases h10 : i < off + vs'.length
                · rw [if_pos (by omega), if_pos h10]; congr 1; omega
                · rw [if_neg (by omega), if_neg h10]
            · rw [List.getElem?_eq_none (by simp; omega), List.getElem?_eq_none (by rw [overwrite_length _ _ _ (by simp; omega)]; simp; omega)]
          rw [key]
          exact h8.overwrite hvs off
        · cases hs
      · cases hs

/-! ### Laying a new object -/
def repUpd (φ : Rep) (r : Nat) (ri : RI) : Rep := fun x => if x = r then some ri else φ x

theorem repUpd_ext {φ : Rep} {r : Nat} {ri : RI} (h : φ r = none) : Ext φ (repUpd φ r ri) := by
  intro x xi hx
  unfold repUpd
  by_cases e : x = r
  · subst e; rw [h] at hx; cases hx
  · rw [if_neg e]; exact hx

theorem heap_alloc_old (w : World) (O : Obj) {b : Nat} (hb : b < w.heap.size) : (w.alloc O).heap[b]? = w.heap[b]? := by
  show (w.heap.push O)[b]? = _
  rw [Array.getElem?_push, if_neg (by omega)]
theorem heap_alloc_at (w : World) (O : Obj) : (w.alloc O).heap[w.heap.size]? = some O := by
  show (w.heap.push O)[w.heap.size]? = _
  rw [Array.getElem?_push, if_pos rfl]

theorem Out.push (h : Rel E H φ w) {o : AObj} {O : Obj} {ri : RI} (hb : ri.blk = w.heap.size)
    (ho : ObjRel E (repUpd φ H.length ri) (w.alloc O) H.length o) : Out E H (H ++ [o]) φ (repUpd φ H.length ri) w (w.alloc O) := by
  have hx : Ext φ (repUpd φ H.length ri) := repUpd_ext (h.fresh _ (Nat.le_refl _))
  have hsz : (w.alloc O).heap.size = w.heap.size + 1 := Array.size_push ..
  have hne : ∀ r, r < H.length → repUpd φ H.length ri r = φ r := fun r hr => by simp [repUpd, Nat.ne_of_lt hr]
  refine ⟨hne, by simp, ⟨?_, ?_, ?_, ?_⟩, by omega, ?_, ?_, ?_, ?_⟩
  · intro r1 o1 h1
    by_cases e : r1 < H.length
    · rw [List.getElem?_append_left e] at h1
      cases hl : o1.live with
      | false => cases o1 <;> simp [AObj.live] at hl; trivial
      | true =>
        refine (h.obj r1 o1 h1).mono hx (fun ri1 hri => heap_alloc_old w O ?_)
        obtain ⟨ri2, hb1, _, hb3⟩ := (h.obj r1 o1 h1).blk hl
        rw [Option.some.inj (hri.symm.trans hb1)]; exact hb3
    · rw [List.getElem?_append_right (by omega)] at h1
      by_cases e2 : r1 = H.length
      · subst e2; simp at h1; subst h1; exact ho
      · rw [List.getElem?_eq_none (by simp; omega)] at h1; cases h1
  · intro r1 r2 o1 o2 ri1 ri2 h1 h2 hne2 hown hlive hφ1 hφ2
    by_cases e1 : r1 < H.length
    · rw [List.getElem?_append_left e1] at h1
      rw [hne r1 e1] at hφ1
      by_cases e2 : r2 < H.length
      · rw [List.getElem?_append_left e2] at h2
        rw [hne r2 e2] at hφ2
        exact h.inj r1 r2 o1 o2 ri1 ri2 h1 h2 hne2 hown hlive hφ1 hφ2
      · by_cases e3 : r2 = H.length
        · subst e3
          simp [repUpd] at hφ2; subst hφ2
          obtain ⟨ri3, hb1, _, hb3⟩ := (h.obj r1 o1 h1).blk (AObj.own_live hown)
          rw [Option.some.inj (hφ1.symm.trans hb1)]; omega
        · rw [List.getElem?_append_right (by omega), List.getElem?_eq_none (by simp; omega)] at h2; cases h2
    · by_cases e3 : r1 = H.length
      · subst e3
        simp [repUpd] at hφ1; subst hφ1
        have e2 : r2 < H.length := by
          by_cases e2 : r2 < H.length
          · exact e2
          · rw [List.getElem?_append_right (by omega), List.getElem?_eq_none (by simp; omega)] at h2; cases h2
        rw [List.getElem?_append_left e2] at h2
        rw [hne r2 e2] at hφ2
        obtain ⟨ri3, hb1, _, hb3⟩ := (h.obj r2 o2 h2).blk hlive
        rw [Option.some.inj (hφ2.symm.trans hb1)]; omega
      · rw [List.getElem?_append_right (by omega), List.getElem?_eq_none (by simp; omega)] at h1; cases h1
  · exact ⟨h.below.os, h.below.tape, h.below.output, by have := h.below.size; omega, fun k hk => (heap_alloc_old w O (by have := h.below.size; omega)).trans (h.below.block k hk)⟩
  · intro r1 h1
    simp at h1
    unfold repUpd
    rw [if_neg (by omega)]
    exact h.fresh r1 (by omega)
  · intro b hb2 _; exact heap_alloc_old w O hb2
  · intro r1 o1 ri1 h1 h2 h3 h4
    by_cases e2 : r1 = H.length
    · subst e2; simp [repUpd] at h4; subst h4; exact .inl (by omega)
    · rw [List.getElem?_append_right (by omega), List.getElem?_eq_none (by simp; omega)] at h2; cases h2
  · intro r1 o1 h1 h2 h3
    rw [List.getElem?_append_left h1] at h2
    exact ⟨o1, h2, h3⟩
  · intro r1 o1 h1 h2 h3
    rw [List.getElem?_append_left h1] at h2
    exact ⟨o1, h2, h3⟩

theorem set_get (H : AH) (r r' : Nat) (o : AObj) : (H.set r o)[r']? = if r = r' then (if r < H.length then some o else none) else H[r']? := by
  rw [List.getElem?_set]

/-- An object that is given up. -/
theorem Out.kill (h : Rel E H φ w) (r : Nat) : Out E H (H.set r .dead) φ φ w w := by
  refine ⟨fun _ _ => rfl, by simp, ⟨?_, ?_, h.below, fun r1 h1 => h.fresh r1 (by simpa using h1)⟩, Nat.le_refl _, fun _ _ _ => rfl, ?_, ?_, ?_⟩
  · intro r1 o1 h1
    rw [set_get] at h1
    by_cases e : r = r1
    · rw [if_pos e] at h1
      split at h1
      · cases h1; trivial
      · cases h1
    · rw [if_neg e] at h1; exact h.obj r1 o1 h1
  · intro r1 r2 o1 o2 ri1 ri2 h1 h2 hne hown hlive hφ1 hφ2
    rw [set_get] at h1 h2
    by_cases e1 : r = r1
    · rw [if_pos e1] at h1
      split at h1
      · cases h1; simp [AObj.own] at hown
      · cases h1
    · rw [if_neg e1] at h1
      by_cases e2 : r = r2
      · rw [if_pos e2] at h2
        split at h2
        · cases h2; simp [AObj.live] at hlive
        · cases h2
      · rw [if_neg e2] at h2
        exact h.inj r1 r2 o1 o2 ri1 ri2 h1 h2 hne hown hlive hφ1 hφ2
  · intro r1 o1 ri1 h1 h2; rw [List.getElem?_eq_none (by simpa using h1)] at h2; cases h2
  · intro r1 o1 h1 h2 h3
    rw [set_get] at h2
    by_cases e : r = r1
    · rw [if_pos e] at h2
      split at h2
      · cases h2; simp [AObj.own] at h3
      · cases h2
    · rw [if_neg e] at h2; exact ⟨o1, h2, h3⟩
  · intro r1 o1 h1 h2 h3
    rw [set_get] at h2
    by_cases e : r = r1
    · rw [if_pos e] at h2
      split at h2
      · cases h2; simp [AObj.live] at h3
      · cases h2
    · rw [if_neg e] at h2; exact ⟨o1, h2, h3⟩

/-- An owned object given up, and another one that takes its block. -/
theorem Out.graft (h : Rel E H φ w) {r : Nat} {o o' : AObj} {ri ri' : RI} {O : Obj} (hr : H[r]? = some o) (ho : o.own = true) (hφ : φ r = some ri) (hb : ri'.blk = ri.blk)
    (ho' : ObjRel E (repUpd φ H.length ri') (setBlk w ri.blk O) H.length o') :
    Out E H (H.set r .dead ++ [o']) φ (repUpd φ H.length ri') w (setBlk w ri.blk O) := by
  have hlt : r < H.length := (List.getElem?_eq_some_iff.1 hr).1
  have hx : Ext φ (repUpd φ H.length ri') := repUpd_ext (h.fresh _ (Nat.le_refl _))
  have hne : ∀ r, r < H.length → repUpd φ H.length ri' r = φ r := fun r hr => by simp [repUpd, Nat.ne_of_lt hr]
  obtain ⟨ri1, hb1, hb2, hb3⟩ := (h.obj r o hr).blk (AObj.own_live ho)
  obtain rfl : ri = ri1 := Option.some.inj (hφ.symm.trans hb1)
  have old : ∀ r1 o1, r1 < H.length → (H.set r .dead ++ [o'])[r1]? = some o1 → o1.live = true → H[r1]? = some o1 ∧ r1 ≠ r := by
    intro r1 o1 hl h1 hv
    rw [List.getElem?_append_left (by simpa using hl), set_get] at h1
    by_cases e : r = r1
    · rw [if_pos e, if_pos hlt] at h1
      cases h1; simp [AObj.live] at hv
    · rw [if_neg e] at h1; exact ⟨h1, fun x => e x.symm⟩
  have new : ∀ r1 o1, ¬ r1 < H.length → (H.set r .dead ++ [o'])[r1]? = some o1 → r1 = H.length ∧ o1 = o' := by
    intro r1 o1 hl h1
    rw [List.getElem?_append_right (by simpa using Nat.le_of_not_lt hl)] at h1
    by_cases e : r1 = H.length
    · subst e; simp at h1; exact ⟨rfl, h1.symm⟩
    · rw [List.getElem?_eq_none (by simp; omega)] at h1; cases h1
  refine ⟨hne, by simp, ⟨?_, ?_, ?_, ?_⟩, by simp [setBlk], ?_, ?_, ?_, ?_⟩
  · intro r1 o1 h1
    by_cases hl : r1 < H.length
    · cases hv : o1.live with
      | false => cases o1 <;> simp [AObj.live] at hv; trivial
      | true =>
        obtain ⟨h2, hn⟩ := old r1 o1 hl h1 hv
        refine (h.obj r1 o1 h2).mono hx (fun ri1 hri => setBlk_ne ?_)
        exact h.inj r r1 o o1 ri ri1 hr h2 (fun x => hn x.symm) ho hv hφ hri
    · obtain ⟨rfl, rfl⟩ := new r1 o1 hl h1; exact ho'
  · intro r1 r2 o1 o2 ri1 ri2 h1 h2 hne2 hown hlive hφ1 hφ2
    by_cases hl1 : r1 < H.length
    · obtain ⟨g1, n1⟩ := old r1 o1 hl1 h1 (AObj.own_live hown)
      rw [hne r1 hl1] at hφ1
      by_cases hl2 : r2 < H.length
      · obtain ⟨g2, n2⟩ := old r2 o2 hl2 h2 hlive
        rw [hne r2 hl2] at hφ2
        exact h.inj r1 r2 o1 o2 ri1 ri2 g1 g2 hne2 hown hlive hφ1 hφ2
      · obtain ⟨rfl, rfl⟩ := new r2 o2 hl2 h2
        simp [repUpd] at hφ2; subst hφ2
        rw [hb]
        exact h.inj r1 r o1 o ri1 ri g1 hr n1 hown (AObj.own_live ho) hφ1 hφ
    · obtain ⟨rfl, rfl⟩ := new r1 o1 hl1 h1
      simp [repUpd] at hφ1; subst hφ1
      have hl2 : r2 < H.length := by
        by_cases hl2 : r2 < H.length
        · exact hl2
        · exact absurd (new r2 o2 hl2 h2).1.symm hne2
      obtain ⟨g2, n2⟩ := old r2 o2 hl2 h2 hlive
      rw [hne r2 hl2] at hφ2
      rw [hb]
      exact h.inj r r2 o o2 ri ri2 hr g2 (fun x => n2 x.symm) ho hlive hφ hφ2
  · exact ⟨h.below.os, h.below.tape, h.below.output, by rw [setBlk_size]; exact h.below.size, fun k hk => (setBlk_ne (by omega)).trans (h.below.block k hk)⟩
  · intro r1 h1
    simp at h1
    unfold repUpd
    rw [if_neg (by omega)]
    exact h.fresh r1 (by omega)
  · intro b hb2 hn; exact setBlk_ne (hn r o ri hr ho hφ)
  · intro r1 o1 ri1 h1 h2 h3 h4
    obtain ⟨rfl, rfl⟩ := new r1 o1 (by omega) h2
    simp [repUpd] at h4; subst h4
    exact .inr ⟨r, o, ri, hr, ho, hφ, hb.symm⟩
  · intro r1 o1 h1 h2 h3
    obtain ⟨g1, _⟩ := old r1 o1 h1 h2 (AObj.own_live h3)
    exact ⟨o1, g1, h3⟩
  · intro r1 o1 h1 h2 h3
    obtain ⟨g1, _⟩ := old r1 o1 h1 h2 h3
    exact ⟨o1, g1, h3⟩

/-- A draw changes nothing that is told. -/
theorem Rel.heap (h : Rel E H φ w) (hh : w'.heap = w.heap) (ho : w'.os = w.os) (ht : w'.tape = w.tape) (hout : w'.output = w.output) : Rel E H φ w' where
  obj r o hr := (h.obj r o hr).mono (Ext.refl _) (fun _ _ => by rw [hh])
  inj := h.inj
  below := ⟨ho.trans h.below.os, ht.trans h.below.tape, hout.trans h.below.output, by rw [hh]; exact h.below.size, fun k hk => by rw [hh]; exact h.below.block k hk⟩
  fresh := h.fresh

theorem Out.heap (h : Out E H H' φ φ' w w') (hh : w''.heap = w'.heap) (ho : w''.os = w'.os) (ht : w''.tape = w'.tape) (hout : w''.output = w'.output) : Out E H H' φ φ' w w'' :=
  ⟨h.dom, h.len, h.rel.heap hh ho ht hout, by rw [hh]; exact h.size, fun b hb hn => by rw [hh]; exact h.frame b hb hn, h.newblk, h.ownm, h.livem⟩

theorem Out.drew0 (h : Rel E H φ w) (hh : w'.heap = w.heap) (ho : w'.os = w.os) (ht : w'.tape = w.tape) (hout : w'.output = w.output) : Out E H H φ φ w w' := (Out.refl h).heap hh ho ht hout

/-- A new row of cells. -/
theorem Out.row (h : Rel E H φ w) {c cs : List Value} (hc : VRs E.M φ c (cs.take c.length)) (hl : c.length ≤ cs.length) (k : Nat) (ty : TypeId) (own : Bool) (fz : Nat × Nat) (hfz : NoFz fz cs.length) :
    Out E H (H ++ [.cells c k own]) φ (repUpd φ H.length ⟨w.heap.size, 0, cs.length, k⟩) w (w.alloc (.cells cs.toArray ty fz)) := by
  refine Out.push h rfl ⟨⟨w.heap.size, 0, cs.length, k⟩, cs.toArray, ty, fz, by simp [repUpd], h.below.size, heap_alloc_at _ _, by simp, hl, rfl, by simpa using hfz, ?_⟩
  simpa using hc.mono (repUpd_ext (h.fresh _ (Nat.le_refl _)))

theorem NoFz.zero (n : Nat) : NoFz (0, 0) n := fun i _ h => by have := h.2; omega

end Go.Proofs.Ytmjcfcbjccepnaa.Eng
