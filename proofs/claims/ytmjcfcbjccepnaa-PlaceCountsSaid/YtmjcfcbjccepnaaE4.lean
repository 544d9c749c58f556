/-
  Each operation that touches no memory, or only reads it, does in the real machine what it does in the abstract one.
-/
import Derived.Test.YtmjcfcbjccepnaaE3
import Derived.ChangeKeysEq
namespace Go.Proofs.Ytmjcfcbjccepnaa.Eng
open Go Go.RowKit
set_option linter.unusedSimpArgs false
set_option linter.unusedVariables false
set_option linter.unusedSectionVars false

variable {E : Env} {H H' : AH} {φ φ' : Rep} {w w' : World}

theorem VRs.extract {xs ys : Array Value} (h : VRs E.M φ xs.toList ys.toList) (i j : Nat) : VRs E.M φ (xs.extract i j).toList (ys.extract i j).toList := by
  rw [Array.toList_extract, Array.toList_extract]
  exact (h.drop i).take (j - i)

theorem partT_sound {t : TypeId} {xs ys : Array Value} {off : Nat} {v : Value} (h : VRs E.M φ xs.toList ys.toList) (hv : partT E t xs off = some v) (w : World) :
    ∃ v', (part t ys off).run E.P w = .ok v' w ∧ VR E.M φ v v' := by
  unfold partT at hv
  cases hg : isAggT E t with
  | none => simp [hg] at hv
  | some g =>
    cases g with
    | false =>
      simp [hg] at hv
      obtain ⟨v', h1, h2⟩ := h.get off v (by simpa using hv)
      refine ⟨v', ?_, h2⟩
      have h1' : ys[off]? = some v' := by simpa using h1
      simp [part, run_isAgg_some hg, Result.andThen, h1']
    | true =>
      simp [hg] at hv
      obtain ⟨n, hs, rfl⟩ := hv
      exact ⟨_, by simp [part, run_isAgg_some hg, run_size_some hs, Result.andThen], .agg _ _ (h.extract _ _)⟩

def EqOk (E : Env) (φ : Rep) (eq : TypeId → Value → Value → Option Bool) (D : Nat) : Prop :=
  ∀ (t : TypeId) (x y x' y' : Value) (b : Bool) (w : World), eq t x y = some b → VR E.M φ x x' → VR E.M φ y y' → (Op.equalIn D t x' y').run E.P w = .ok b w

theorem evFields_sound {eq : TypeId → Value → Value → Option Bool} {D : Nat} (he : EqOk E φ eq D) {xs ys xs' ys' : Array Value} (hxs : VRs E.M φ xs.toList xs'.toList) (hys : VRs E.M φ ys.toList ys'.toList) (w : World) :
    ∀ (l : List Field) (b : Bool), evFields E eq xs ys l = some b → (Op.eqFields D xs' ys' l).run E.P w = .ok b w
  | [], b, h => by simp [evFields] at h; subst h; simp [Op.eqFields]
  | f :: l, b, h => by
    unfold evFields at h
    unfold Op.eqFields
    by_cases hn : f.name = "_"
    · rw [if_pos hn] at h
      rw [if_neg (by simpa using hn)]
      exact evFields_sound he hxs hys w l b h
    · rw [if_neg hn] at h
      rw [if_pos hn]
      cases h1 : partT E f.type xs f.offset with
      | none => simp [h1] at h
      | some u =>
        cases h2 : partT E f.type ys f.offset with
        | none => simp [h1, h2] at h
        | some v =>
          cases h3 : eq f.type u v with
          | none => simp [h1, h2, h3] at h
          | some r =>
            simp only [h1, h2, h3, Option.bind_some] at h
            obtain ⟨u', hu1, hu2⟩ := partT_sound hxs h1 w
            obtain ⟨v', hv1, hv2⟩ := partT_sound hys h2 w
            have hr := he f.type u v u' v' r w h3 hu2 hv2
            simp only [Sem.run_bind, hu1, hv1, hr, Result.andThen_ok]
            cases r
            · simp at h; subst h; simp
            · simp at h; simpa using evFields_sound he hxs hys w l b h

theorem evElems_sound {eq : TypeId → Value → Value → Option Bool} {D : Nat} (he : EqOk E φ eq D) {xs ys xs' ys' : Array Value} (hxs : VRs E.M φ xs.toList xs'.toList) (hys : VRs E.M φ ys.toList ys'.toList) (e k : Nat) (w : World) :
    ∀ (l : List Nat) (b : Bool), evElems E eq e k xs ys l = some b → (Op.eqItems D e k xs' ys' l).run E.P w = .ok b w
  | [], b, h => by simp [evElems] at h; subst h; simp [Op.eqItems]
  | f :: l, b, h => by
    unfold evElems at h
    unfold Op.eqItems
    cases h1 : partT E e xs (f * k) with
    | none => simp [h1] at h
    | some u =>
      cases h2 : partT E e ys (f * k) with
      | none => simp [h1, h2] at h
      | some v =>
        cases h3 : eq e u v with
        | none => simp [h1, h2, h3] at h
        | some r =>
          simp only [h1, h2, h3, Option.bind_some] at h
          obtain ⟨u', hu1, hu2⟩ := partT_sound hxs h1 w
          obtain ⟨v', hv1, hv2⟩ := partT_sound hys h2 w
          have hr := he e u v u' v' r w h3 hu2 hv2
          simp only [Sem.run_bind, hu1, hv1, hr, Result.andThen_ok]
          cases r
          · simp at h; subst h; simp
          · simp at h; simpa using evElems_sound he hxs hys e k w l b h

theorem evEqStep_sound {eq : TypeId → Value → Value → Option Bool} {D : Nat} (he : EqOk E φ eq D) : EqOk E φ (evEqStep E eq) (D + 1) := by
  intro t x y x' y' b w h hx hy
  unfold evEqStep at h
  split at h
  · rename_i hu
    cases hx; cases hy; cases h
    simp only [Op.equalIn, Sem.run_bind, run_underlying hu, Result.andThen_ok, Sem.run_pure]
  · rename_i hu
    cases hx; cases hy
    split at h
    · cases h; rename_i hk; simp only [Op.equalIn, Sem.run_bind, run_underlying hu, Result.andThen_ok, hk, if_true, Sem.run_pure]
    · cases h
  · rename_i hu
    cases hx; cases hy; cases h
    simp only [Op.equalIn, Sem.run_bind, run_underlying hu, Result.andThen_ok, Sem.run_pure]
  · rename_i hu
    cases hx; cases h
    cases hy <;> simp only [Op.equalIn, Sem.run_bind, run_underlying hu, Result.andThen_ok, Sem.run_pure, Option.isNone]
  · rename_i hu
    cases h
    cases hy
    cases hx <;> simp only [Op.equalIn, Sem.run_bind, run_underlying hu, Result.andThen_ok, Sem.run_pure]
  · rename_i hu
    cases h
    cases hx
    cases hy <;> simp only [Op.equalIn, Sem.run_bind, run_underlying hu, Result.andThen_ok, Sem.run_pure, Option.isNone]
  · rename_i hu
    cases h
    cases hy
    cases hx <;> simp only [Op.equalIn, Sem.run_bind, run_underlying hu, Result.andThen_ok, Sem.run_pure]
  · rename_i hu
    cases h
    cases hx
    cases hy <;> simp only [Op.equalIn, Sem.run_bind, run_underlying hu, Result.andThen_ok, Sem.run_pure, Option.isNone]
  · rename_i hu
    cases h
    cases hy
    cases hx <;> simp only [Op.equalIn, Sem.run_bind, run_underlying hu, Result.andThen_ok, Sem.run_pure]
  · rename_i fs xs ys hu
    split at h
    · cases h
    rename_i hst
    have hst' : E.P.stoodInHeld t = false := by simpa using hst
    cases hx with | agg _ xs' hxs =>
    cases hy with | agg _ ys' hys =>
    have hf : E.P.fieldsOf t = fs := by simp [Program.fieldsOf, hu]
    rw [run_equalIn_struct (P := E.P) w D t xs' ys' (by rw [hf]; exact hu) hst', hf]
    exact evFields_sound he hxs hys w _ _ h
  · rename_i n e xs ys hu
    cases hx with | agg _ xs' hxs =>
    cases hy with | agg _ ys' hys =>
    cases hs : sizeT E e with
    | none => simp [hs] at h
    | some k =>
      simp only [hs, Option.bind_some] at h
      obtain ⟨i, hi, hik⟩ : ∃ i, E.P.info? e = some i ∧ i.size = k := by simpa [sizeT] using hs
      have hc : E.P.cellsOf e = k := by simp [Program.cellsOf, hi, hik]
      rw [run_equalIn_array (P := E.P) w D xs' ys' hu hi, hc]
      exact evElems_sound he hxs hys e k w _ _ h
  · cases h

theorem evEq_sound : ∀ (d D : Nat), d ≤ D → EqOk E φ (evEq E d) D
  | 0, D, _ => fun t x y x' y' b w h => by simp [evEq] at h
  | d + 1, D, h => by
    obtain ⟨D, rfl⟩ : ∃ D', D = D' + 1 := ⟨D - 1, by omega⟩
    exact evEqStep_sound (evEq_sound d D (by omega))

theorem evEq8_sound {t : TypeId} {x y x' y' : Value} {b : Bool} (h : evEq E 8 t x y = some b) (hx : VR E.M φ x x') (hy : VR E.M φ y y') (w : World) : (Op.equal t x' y').run E.P w = .ok b w :=
  evEq_sound 8 Op.maxDepth (by decide) t x y x' y' b w h hx hy

/-- The test ahead of '==' lets values by that are no interface values, nor of a type that holds such. -/
theorem eqGuard_plain (op : BinOp) (t : TypeId) (ox oy : Operand) (x y : Value) (w : World) (h : match x, y with | .nilIface, .nilIface => False | .agg _, .agg _ => E.P.eqGuardType E.P.depth t = false | _, _ => True) :
    (eqGuard op t ox oy x y).run E.P w = .ok () w := by
  cases op <;> simp only [eqGuard, Bool.not_true, Bool.not_false, Bool.false_eq_true, if_false, if_true, Sem.run_pure]
  all_goals
    split
    · exact h.elim
    · simp only at h
      simp [h]
    · simp

theorem evBin_sound {op : BinOp} {t : TypeId} {x y x' y' v : Value} (h : evBin E op t x y = some v) (hx : VR E.M φ x x') (hy : VR E.M φ y y') (ox oy : Operand) (w : World) :
    (do eqGuard op t ox oy x' y'; binOp op t x' y' : Sem Value).run E.P w = .ok v w ∧ VR E.M φ v v := by
  unfold evBin at h
  split at h
  · -- whole numbers
    rename_i k a k' b
    cases hx; cases hy
    rw [Sem.run_bind, eqGuard_plain op t ox oy _ _ w trivial, Result.andThen_ok]
    split at h
    · split at h
      · cases h
      · rename_i hb; cases h
        refine ⟨?_, .int _ _⟩
        simp [binOp, Op.shift, hb]
    · split at h
      · cases h
      · rename_i hb; cases h
        refine ⟨?_, .int _ _⟩
        simp [binOp, Op.shift, hb]
    · split at h
      · rename_i h1 h2 hk
        subst hk
        unfold evInt at h
        split at h
        all_goals first
          | (cases h; refine ⟨?_, .int _ _⟩; simp [binOp, Op.intArith, Op.intBits]; done)
          | (cases h; refine ⟨?_, .bool _⟩; simp [binOp, Op.intCmp]; done)
          | (by_cases hb : b = 0
             · rw [if_pos hb] at h; cases h
             · rw [if_neg hb] at h; cases h; refine ⟨?_, .int _ _⟩; simp [binOp, Op.intDiv, hb]; done)
          | (cases h; done)
      · cases h
  · rename_i a b
    cases hx; cases hy
    rw [Sem.run_bind, eqGuard_plain op t ox oy _ _ w trivial, Result.andThen_ok]
    unfold evStr at h
    split at h
    · split at h
      · cases h
      · rename_i hb; cases h
        refine ⟨?_, .string _⟩
        have hb' : ¬ ((a.size + b.size : Nat) : Int) > IntKind.i64.max := by simpa [IntKind.max, IntKind.signed, IntKind.bits] using hb
        simp only [binOp, Op.stringOp]
        rw [if_neg hb']; rfl
    all_goals first
      | (cases h; refine ⟨?_, .bool _⟩; simp [binOp, Op.stringOp]; done)
      | (cases h; done)
  · rename_i xs ys
    split at h
    · cases h
    rename_i hg
    have hg' : E.P.eqGuardType E.P.depth t = false := by simpa using hg
    cases hx with | agg _ xs' hxs =>
    cases hy with | agg _ ys' hys =>
    rw [Sem.run_bind, eqGuard_plain op t ox oy _ _ w hg', Result.andThen_ok]
    split at h <;> first
      | (cases h1 : evEq E 8 t (.agg xs) (.agg ys) with
         | none => simp [h1] at h
         | some b =>
           simp [h1] at h; subst h
           refine ⟨?_, .bool _⟩
           simp [binOp, evEq8_sound h1 (.agg _ _ hxs) (.agg _ _ hys) w, Result.andThen])
      | (cases h; done)
  · rename_i a b
    have hx0 := hx; have hy0 := hy
    cases hx; cases hy
    rw [Sem.run_bind, eqGuard_plain op t ox oy _ _ w trivial, Result.andThen_ok]
    split at h <;> first
      | (cases h1 : evEq E 8 t (.bool a) (.bool b) with
         | none => simp [h1] at h
         | some r =>
           simp [h1] at h; subst h
           refine ⟨?_, .bool _⟩
           simp [binOp, evEq8_sound h1 hx0 hy0 w, Result.andThen])
      | (cases h; done)
  · rename_i a b
    obtain ⟨a', ha'⟩ : ∃ a', x' = .pointer a' := by cases hx <;> exact ⟨_, rfl⟩
    obtain ⟨b', hb'⟩ : ∃ b', y' = .pointer b' := by cases hy <;> exact ⟨_, rfl⟩
    subst ha'; subst hb'
    rw [Sem.run_bind, eqGuard_plain op t ox oy _ _ w trivial, Result.andThen_ok]
    split at h <;> first
      | (cases h1 : evEq E 8 t (.pointer a) (.pointer b) with
         | none => simp [h1] at h
         | some r =>
           simp [h1] at h; subst h
           refine ⟨?_, .bool _⟩
           simp [binOp, evEq8_sound h1 hx hy w, Result.andThen])
      | (cases h; done)
  · rename_i a n c b m d
    obtain ⟨a', n', c', ha'⟩ : ∃ a' n' c', x' = .slice a' n' c' := by cases hx <;> exact ⟨_, _, _, rfl⟩
    obtain ⟨b', m', d', hb'⟩ : ∃ b' m' d', y' = .slice b' m' d' := by cases hy <;> exact ⟨_, _, _, rfl⟩
    subst ha'; subst hb'
    rw [Sem.run_bind, eqGuard_plain op t ox oy _ _ w trivial, Result.andThen_ok]
    split at h <;> first
      | (cases h1 : evEq E 8 t (.slice a n c) (.slice b m d) with
         | none => simp [h1] at h
         | some r =>
           simp [h1] at h; subst h
           refine ⟨?_, .bool _⟩
           simp [binOp, evEq8_sound h1 hx hy w, Result.andThen])
      | (cases h; done)
  · rename_i a b
    obtain ⟨a', ha'⟩ : ∃ a', x' = .map a' := by cases hx <;> exact ⟨_, rfl⟩
    obtain ⟨b', hb'⟩ : ∃ b', y' = .map b' := by cases hy <;> exact ⟨_, rfl⟩
    subst ha'; subst hb'
    rw [Sem.run_bind, eqGuard_plain op t ox oy _ _ w trivial, Result.andThen_ok]
    split at h <;> first
      | (cases h1 : evEq E 8 t (.map a) (.map b) with
         | none => simp [h1] at h
         | some r =>
           simp [h1] at h; subst h
           refine ⟨?_, .bool _⟩
           simp [binOp, evEq8_sound h1 hx hy w, Result.andThen])
      | (cases h; done)
  · cases h

theorem evUn_sound {op : UnOp} {x x' v : Value} (h : evUn op x = some v) (hx : VR E.M φ x x') (w : World) : (Op.unary op x').run E.P w = .ok v w ∧ VR E.M φ v v := by
  unfold evUn at h
  split at h
  · cases hx; cases h; exact ⟨by simp [Op.unary, Op.intArith], .int _ _⟩
  · cases hx; cases h; exact ⟨by simp [Op.unary, Op.intBits], .int _ _⟩
  · cases hx; cases h; exact ⟨by simp [Op.unary], .bool _⟩
  · cases h

theorem run_asIntOf_int (k : IntKind) (n : Int) (w : World) : (asIntOf (.int k n)).run E.P w = .ok (k, n) w := by simp [asIntOf]

theorem evIndexAddr_sound {t : TypeId} {x i x' i' v : Value} (h : evIndexAddr E t x i = some v) (hx : VR E.M φ x x') (hi : VR E.M φ i i') (w : World) :
    ∃ v', (Instr.indexAt t x' i').run E.P w = .ok v' w ∧ VR E.M φ v v' := by
  unfold evIndexAddr at h
  split at h
  · rename_i e a n c k j hu
    cases hi
    cases hs : sizeT E e with
    | none => simp [hs] at h
    | some size =>
      simp only [hs, Option.bind_some] at h
      split at h
      · rename_i hb
        cases h
        have key : ∀ a' c', VR E.M φ (.pointer (some a)) (.pointer (some a')) → x' = .slice (some a') n c' → ∃ v', (Instr.indexAt t x' (.int k j)).run E.P w = .ok v' w ∧ VR E.M φ (.pointer (some (a.add (j.toNat * size)))) v' := by
          intro a' c' ha hx'
          subst hx'
          obtain ⟨a1, h1, h2⟩ := VR.addr ha
          cases h1
          refine ⟨.pointer (some (a'.add (j.toNat * size))), ?_, (h2.add _).vr⟩
          simp only [Instr.indexAt, Sem.run_bind, run_asIntOf_int, Result.andThen_ok, run_underlying hu, Sem.run_pure]
          rw [if_pos hb]
          simp [run_size_some hs]
        cases hx with
        | sliceOld _ _ _ ho => exact key a c (.ptrOld _ ho) rfl
        | sliceNew r off _ _ c' ri hφ _ _ _ => exact key _ c' (.ptrNew r off ri hφ) rfl
        | sliceEmp r off a c hc => have := hb.1; have := hb.2; omega
      · cases h
  · rename_i n e a k j hu
    cases hi
    cases hs : sizeT E e with
    | none => simp [hs] at h
    | some size =>
      simp only [hs, Option.bind_some] at h
      split at h
      · rename_i hb
        cases h
        obtain ⟨a', rfl, h2⟩ := VR.addr hx
        refine ⟨.pointer (some (a'.add (j.toNat * size))), ?_, (h2.add _).vr⟩
        simp only [Instr.indexAt, Sem.run_bind, run_asIntOf_int, Result.andThen_ok, run_underlying hu, Sem.run_pure, Instr.sureAddr]
        rw [if_pos hb]
        simp [run_size_some hs]
      · cases h
  · cases h

theorem evIndex_sound {t : TypeId} {x i x' i' v : Value} (h : evIndex E t x i = some v) (hx : VR E.M φ x x') (hi : VR E.M φ i i') (w : World) :
    ∃ v', (Instr.index t x' i').run E.P w = .ok v' w ∧ VR E.M φ v v' := by
  unfold evIndex at h
  split at h
  · rename_i n e cs k j hu
    cases hi
    cases hx with | agg _ cs' hcs =>
    cases hs : sizeT E e with
    | none => simp [hs] at h
    | some size =>
      simp only [hs, Option.bind_some] at h
      split at h
      · rename_i hb
        obtain ⟨v', h1, h2⟩ := partT_sound hcs h w
        refine ⟨v', ?_, h2⟩
        simp only [Instr.index, Sem.run_bind, run_asIntOf_int, Result.andThen_ok, run_underlying hu]
        rw [if_pos hb]
        simp [run_size_some hs, h1]
      · cases h
  · rename_i s k j hu
    cases hi; cases hx
    split at h
    · rename_i hj
      cases hb : s.data[j.toNat]? with
      | none => simp [hb] at h
      | some b =>
        simp [hb] at h; subst h
        refine ⟨u8v b, ?_, .int _ _⟩
        have hb' : s[j.toNat]? = some b := by
          obtain ⟨hlt, he⟩ := Array.getElem?_eq_some_iff.1 hb
          rw [getElem?_pos s j.toNat hlt]
          exact congrArg some he
        simp [Instr.index, run_asIntOf_int, run_underlying hu, hj, hb', u8v]
    · cases h
  · cases h

theorem evField_sound {t : TypeId} {x x' v : Value} {f : Nat} (h : evField E t x f = some v) (hx : VR E.M φ x x') (w : World) :
    ∃ v', (Instr.field t x' f).run E.P w = .ok v' w ∧ VR E.M φ v v' := by
  unfold evField at h
  split at h
  · cases hx with | agg _ cs' hcs =>
    cases hf : fieldOf E t f with
    | none => simp [hf] at h
    | some fd =>
      simp only [hf, Option.bind_some] at h
      obtain ⟨v', h1, h2⟩ := partT_sound hcs h w
      refine ⟨v', ?_, h2⟩
      unfold fieldOf at hf
      split at hf
      · rename_i fs hu
        simp [Instr.field, run_underlying hu, hf, asAgg, h1]
      · cases hf
  · cases h

theorem evFieldAddr_sound {t : TypeId} {x x' v : Value} {f : Nat} (h : evFieldAddr E t x f = some v) (hx : VR E.M φ x x') (w : World) :
    ∃ v', (Instr.fieldAt t x' f).run E.P w = .ok v' w ∧ VR E.M φ v v' := by
  unfold evFieldAddr at h
  split at h
  · rename_i a
    obtain ⟨a', rfl, ha⟩ := VR.addr hx
    cases hf : fieldOf E t f with
    | none => simp [hf] at h
    | some fd =>
      simp only [hf, Option.bind_some] at h
      cases hs : sizeT E fd.type with
      | none => simp [hs] at h
      | some n =>
        simp only [hs, Option.bind_some] at h
        split at h
        · cases h
        · rename_i hn
          cases h
          refine ⟨.pointer (some (a'.add fd.offset)), ?_, (ha.add _).vr⟩
          unfold fieldOf at hf
          split at hf
          · rename_i fs hu
            simp [Instr.fieldAt, run_underlying hu, hf, Instr.sureAddr, fieldPlace, run_size_some hs, hn]
          · cases hf
  · cases h

theorem bnd_none {d y n : Nat} (h : bnd none d y = some n) : n = d := by simpa [bnd] using h.symm
theorem bnd_some {v : Value} {d y n : Nat} (h : bnd (some v) d y = some n) (code : BoundsCode) (w : World) : (Instr.sliceBound v y code).run E.P w = .ok n w ∧ n ≤ y := by
  unfold bnd at h
  cases v <;> simp at h
  rename_i k i
  obtain ⟨hb, rfl⟩ := h
  exact ⟨by simp [Instr.sliceBound, run_asIntOf_int, hb], by omega⟩
theorem bnd_up {v : Value} {d y y' n : Nat} (hy : y ≤ y') (h : bnd (some v) d y = some n) : bnd (some v) d y' = some n := by
  unfold bnd at h ⊢
  cases v <;> simp at h ⊢
  obtain ⟨h1, h2⟩ := h
  exact ⟨by omega, h2⟩
theorem bnd_le {x : Option Value} {d y n : Nat} (h : bnd x d y = some n) (hd : d ≤ y) : n ≤ y := by
  cases x with
  | none => rw [bnd_none h]; exact hd
  | some v => exact (bnd_some (E := ⟨default, default, 0, fun _ => none⟩) h .index default).2

/-- The bounds of a slice expression, at a capacity that is no less than the one that was told. -/
theorem bnds_sound {n top cap : Nat} {lo hi mx : Option Value} {p : Nat × Nat × Nat} (h : bnds n top lo hi mx = some p) (ht : top ≤ cap) (hnt : n ≤ top) (b : Bool) (w : World) :
    (Instr.sliceBounds b n cap lo hi mx).run E.P w = .ok (p.1, p.2.1, if mx.isSome then p.2.2 else cap) w ∧ p.1 ≤ p.2.1 ∧ p.2.1 ≤ p.2.2 ∧ p.2.2 ≤ top := by
  unfold bnds at h
  split at h
  · rename_i v hv
    cases h1 : bnd (some v) 0 top with
    | none => simp [h1] at h
    | some m =>
      simp only [h1, Option.bind_some] at h
      cases h2 : bnd (some hv) n m with
      | none => simp [h2] at h
      | some hh =>
        simp only [h2, Option.bind_some] at h
        cases h3 : bnd lo 0 hh with
        | none => simp [h3] at h
        | some l =>
          simp [h3] at h; subst h
          have e1 := bnd_some (E := E) (bnd_up ht h1) (if b then .slice3Acap else .slice3Alen) w
          have e2 := bnd_some (E := E) h2 .slice3B w
          have l1 := bnd_le h1 (Nat.zero_le _)
          have l3 := bnd_le h3 (Nat.zero_le _)
          refine ⟨?_, l3, e2.2, l1⟩
          cases lo with
          | none => have e3 := bnd_none h3; subst e3; simp [Instr.sliceBounds, e1.1, e2.1]
          | some u => have e3 := bnd_some (E := E) h3 .slice3C w; simp [Instr.sliceBounds, e1.1, e2.1, e3.1]
  · cases h
  · rename_i hi2
    cases h2 : bnd hi n top with
    | none => simp [h2] at h
    | some hh =>
      simp only [h2, Option.bind_some] at h
      cases h3 : bnd lo 0 hh with
      | none => simp [h3] at h
      | some l =>
        simp [h3] at h; subst h
        have l2 := bnd_le h2 hnt
        have l3 := bnd_le h3 (Nat.zero_le _)
        refine ⟨?_, l3, l2, Nat.le_refl _⟩
        cases hi with
        | none =>
          have := bnd_none h2
          subst this
          cases lo with
          | none => have e3 := bnd_none h3; subst e3; simp [Instr.sliceBounds]
          | some u => have e3 := bnd_some (E := E) h3 .sliceB w; simp [Instr.sliceBounds, e3.1]
        | some u2 =>
          have e2 := bnd_some (E := E) (bnd_up ht h2) (if b then .sliceAcap else .sliceAlen) w
          cases lo with
          | none => have e3 := bnd_none h3; subst e3; simp [Instr.sliceBounds, e2.1]
          | some u => have e3 := bnd_some (E := E) h3 .sliceB w; simp [Instr.sliceBounds, e2.1, e3.1]

theorem VR.sliceForm {M : Nat} {base : Option Addr} {n c : Nat} {v' : Value} (h : VR M φ (.slice base n c) v') :
    (base = none ∧ v' = .slice none n c) ∨ (∃ a, base = some a ∧ a.block < M ∧ v' = .slice (some a) n c) ∨
    (∃ r off c' ri, base = some ⟨M + r, off, none⟩ ∧ v' = .slice (some ⟨ri.blk, ri.base + off, none⟩) n c' ∧ φ r = some ri ∧ (c = c' ∨ c = INF) ∧ n ≤ c' ∧ off + c' * ri.k ≤ ri.row) ∨
    (∃ r off a, base = some ⟨M + r, off, none⟩ ∧ v' = .slice (some a) 0 0 ∧ n = 0 ∧ (c = 0 ∨ c = INF)) := by
  cases h with
  | sliceNil => exact .inl ⟨rfl, rfl⟩
  | sliceOld a _ _ ho => exact .inr (.inl ⟨a, rfl, ho, rfl⟩)
  | sliceNew r off _ _ c' ri hφ hc hn hb => exact .inr (.inr (.inl ⟨r, off, c', ri, rfl, rfl, hφ, hc, hn, hb⟩))
  | sliceEmp r off a _ hc => exact .inr (.inr (.inr ⟨r, off, a, rfl, rfl, rfl, hc⟩))

theorem widthAt_new (h : Rel E H φ w) {r off size : Nat} {ri : RI} (hw : widthAt E H size (some ⟨E.M + r, off, none⟩) = true) (hφ : φ r = some ri) : ri.k = size := by
  unfold widthAt at hw
  simp only at hw
  rw [if_neg (by simp), show E.M + r - E.M = r by omega] at hw
  split at hw
  · rename_i c k o hr
    obtain ⟨ri', cs, ty, fz, h1, _, _, _, _, h6, _, _⟩ := h.obj r _ hr
    obtain rfl : ri = ri' := Option.some.inj (hφ.symm.trans h1)
    rw [h6]; simpa using hw
  · cases hw

theorem moved_map (size : Nat) (base : Option Addr) (l m : Nat) (hml : l ≤ m) : (if m = l then base else base.map (·.add (l * size))) = moved size base l (m - l) := by
  unfold moved
  cases base with
  | none => split <;> rfl
  | some a =>
    by_cases h : m = l
    · subst h; simp
    · rw [if_neg h]
      show some (a.add (l * size)) = some (if m - l = 0 then a else a.add (l * size))
      rw [if_neg (by omega)]

theorem evSlice_sound (h : Rel E H φ w) {t : TypeId} {x x' v : Value} {lo hi mx : Option Value} (hv : evSlice E t x lo hi mx H = some v) (hx : VR E.M φ x x') :
    ∃ v', (Instr.sliceAt t x' lo hi mx).run E.P w = .ok v' w ∧ VR E.M φ v v' := by
  unfold evSlice at hv
  split at hv
  · rename_i s hu
    cases hx
    split at hv
    · cases hv
    · rename_i hm
      cases hb : bnds s.size s.size lo hi none with
      | none => simp [hb] at hv
      | some p =>
        simp [hb] at hv; subst hv
        have hs := (bnds_sound (E := E) hb (Nat.le_refl s.size) (Nat.le_refl _) false w).1
        obtain rfl : mx = none := by cases mx <;> simp_all
        refine ⟨_, ?_, .string _⟩
        simp [Instr.sliceAt, Instr.slice, run_underlying hu, hs]
  · rename_i e base n cap hu
    cases hs : sizeT E e with
    | none => simp [hs] at hv
    | some size =>
      simp only [hs, Option.bind_some] at hv
      split at hv
      · rename_i hw
        -- the run, at the real capacity
        have run : ∀ (base' : Option Addr) (top c' : Nat) (p : Nat × Nat × Nat), bnds n top lo hi mx = some p → top ≤ c' → n ≤ top →
            (Instr.sliceAt t (.slice base' n c') lo hi mx).run E.P w = .ok (.slice (moved size base' p.1 ((if mx.isSome then p.2.2 else c') - p.1)) (p.2.1 - p.1) ((if mx.isSome then p.2.2 else c') - p.1)) w ∧ p.1 ≤ p.2.1 ∧ p.2.1 ≤ p.2.2 ∧ p.2.2 ≤ top := by
          intro base' top c' p hb ht hnt
          obtain ⟨h1, h2, h3, h4⟩ := bnds_sound (E := E) hb ht hnt true w
          refine ⟨?_, h2, h3, h4⟩
          simp only [Instr.sliceAt, Instr.slice, Sem.run_bind, run_underlying hu, Result.andThen_ok, h1, run_size_some hs, Sem.run_pure]
          rw [moved_map size base' p.1 _ (by split <;> omega)]
        split at hv
        · rename_i hk
          cases hb : bnds n n lo hi mx with
          | none => simp [hb] at hv
          | some p =>
            simp only [hb, Option.map_some, Option.some.injEq] at hv
            rcases VR.sliceForm hx with ⟨rfl, rfl⟩ | ⟨a, rfl, ho, rfl⟩ | ⟨r, off, c', ri, rfl, rfl, hφ, hc, hn, hbd⟩ | ⟨r, off, a, rfl, rfl, rfl, hc⟩
            · simp [unkCap] at hk
            · simp [unkCap] at hk; omega
            · obtain ⟨h1, h2, h3, h4⟩ := run (some ⟨ri.blk, ri.base + off, none⟩) n c' p hb hn (Nat.le_refl _)
              have hkk : ri.k = size := widthAt_new h hw hφ
              refine ⟨_, h1, ?_⟩
              cases mx with
              | none =>
                simp at hv; subst hv
                simp only [Option.isSome_none, Bool.false_eq_true, if_false]
                have e1 : moved size (some (⟨E.M + r, off, none⟩ : Addr)) p.1 1 = some ⟨E.M + r, off + p.1 * size, none⟩ := by simp [moved, add_lit]
                rw [e1]
                by_cases hz : c' - p.1 = 0
                · have : p.2.1 - p.1 = 0 := by omega
                  rw [hz, this]
                  simp only [moved, if_true]
                  exact .sliceEmp r _ _ INF (.inr rfl)
                · rw [show moved size (some (⟨ri.blk, ri.base + off, none⟩ : Addr)) p.1 (c' - p.1) = some ⟨ri.blk, ri.base + (off + p.1 * size), none⟩ by simp [moved, hz, add_lit, Nat.add_assoc]]
                  refine .sliceNew r _ _ INF (c' - p.1) ri hφ (.inr rfl) (by omega) ?_
                  rw [hkk] at hbd ⊢
                  have : c' * size = p.1 * size + (c' - p.1) * size := by rw [← Nat.add_mul]; congr 1; omega
                  omega
              | some m =>
                simp at hv; subst hv
                simp only [Option.isSome_some, if_true]
                by_cases hz : p.2.2 - p.1 = 0
                · rw [hz]
                  have : p.2.1 - p.1 = 0 := by omega
                  rw [this]
                  simp only [moved, if_true]
                  exact .sliceNew r _ _ _ 0 ri hφ (.inl rfl) (by omega) (by have : 0 * ri.k ≤ c' * ri.k := Nat.mul_le_mul_right _ (by omega); omega)
                · rw [show moved size (some (⟨ri.blk, ri.base + off, none⟩ : Addr)) p.1 (p.2.2 - p.1) = some ⟨ri.blk, ri.base + (off + p.1 * size), none⟩ by simp [moved, hz, add_lit, Nat.add_assoc]]
                  rw [show moved size (some (⟨E.M + r, off, none⟩ : Addr)) p.1 (p.2.2 - p.1) = some ⟨E.M + r, off + p.1 * size, none⟩ by simp [moved, hz, add_lit]]
                  refine .sliceNew r _ _ _ (p.2.2 - p.1) ri hφ (.inl rfl) (by omega) ?_
                  rw [hkk] at hbd ⊢
                  have : p.2.2 * size = p.1 * size + (p.2.2 - p.1) * size := by rw [← Nat.add_mul]; congr 1; omega
                  have : p.2.2 * size ≤ c' * size := Nat.mul_le_mul_right _ (by omega)
                  omega
            · obtain ⟨h1, h2, h3, h4⟩ := run (some a) 0 0 p hb (Nat.le_refl _) (Nat.le_refl _)
              refine ⟨_, h1, ?_⟩
              have e1 : p.1 = 0 := by omega
              have e2 : p.2.1 = 0 := by omega
              have e3 : p.2.2 = 0 := by omega
              rw [e1, e2, e3]
              rw [e1, e2, e3] at hv
              cases mx with
              | none => simp at hv; subst hv; simp [moved, addr_add_zero]; exact .sliceEmp r off a INF (.inr rfl)
              | some m => simp at hv; subst hv; simp [moved]; exact .sliceEmp r off a 0 (.inl rfl)
        · rename_i hk
          split at hv
          · rename_i hnc
            cases hb : bnds n cap lo hi mx with
            | none => simp [hb] at hv
            | some p =>
              simp only [hb, Option.map_some, Option.some.injEq] at hv
              have hp : (if mx.isSome then p.2.2 else cap) = p.2.2 := by
                cases mx with
                | some _ => rfl
                | none =>
                  simp only [bnds] at hb
                  cases h2 : bnd hi n cap with
                  | none => simp [h2] at hb
                  | some hh =>
                    simp only [h2, Option.bind_some] at hb
                    cases h3 : bnd lo 0 hh with
                    | none => simp [h3] at hb
                    | some l => simp [h3] at hb; subst hb; rfl
              rcases VR.sliceForm hx with ⟨rfl, rfl⟩ | ⟨a, rfl, ho, rfl⟩ | ⟨r, off, c', ri, rfl, rfl, hφ, hc, hn, hbd⟩ | ⟨r, off, a, rfl, rfl, rfl, hc⟩
              · obtain ⟨h1, h2, h3, h4⟩ := run none cap cap p hb (Nat.le_refl _) hnc
                refine ⟨_, h1, ?_⟩
                rw [hp]; subst hv
                exact .sliceNil _ _
              · obtain ⟨h1, h2, h3, h4⟩ := run (some a) cap cap p hb (Nat.le_refl _) hnc
                refine ⟨_, h1, ?_⟩
                rw [hp]; subst hv
                refine .sliceOld _ _ _ ?_
                split
                · exact ho
                · unfold Addr.add; split <;> exact ho
              · have hcc : cap = c' := by
                  rcases hc with rfl | rfl
                  · rfl
                  · simp [unkCap] at hk
                subst hcc
                obtain ⟨h1, h2, h3, h4⟩ := run (some ⟨ri.blk, ri.base + off, none⟩) cap cap p hb (Nat.le_refl _) hnc
                have hkk : ri.k = size := widthAt_new h hw hφ
                refine ⟨_, h1, ?_⟩
                rw [hp]; subst hv
                by_cases hz : p.2.2 - p.1 = 0
                · rw [hz]
                  have : p.2.1 - p.1 = 0 := by omega
                  rw [this]
                  simp only [moved, if_true]
                  exact .sliceNew r _ _ _ 0 ri hφ (.inl rfl) (by omega) (by have : 0 * ri.k ≤ cap * ri.k := Nat.mul_le_mul_right _ (by omega); omega)
                · rw [show moved size (some (⟨ri.blk, ri.base + off, none⟩ : Addr)) p.1 (p.2.2 - p.1) = some ⟨ri.blk, ri.base + (off + p.1 * size), none⟩ by simp [moved, hz, add_lit, Nat.add_assoc]]
                  rw [show moved size (some (⟨E.M + r, off, none⟩ : Addr)) p.1 (p.2.2 - p.1) = some ⟨E.M + r, off + p.1 * size, none⟩ by simp [moved, hz, add_lit]]
                  refine .sliceNew r _ _ _ (p.2.2 - p.1) ri hφ (.inl rfl) (by omega) ?_
                  rw [hkk] at hbd ⊢
                  have : p.2.2 * size = p.1 * size + (p.2.2 - p.1) * size := by rw [← Nat.add_mul]; congr 1; omega
                  have : p.2.2 * size ≤ cap * size := Nat.mul_le_mul_right _ (by omega)
                  omega
              · have hc0 : cap = 0 := by
                  rcases hc with rfl | rfl
                  · rfl
                  · simp [unkCap] at hk
                subst hc0
                obtain ⟨h1, h2, h3, h4⟩ := run (some a) 0 0 p hb (Nat.le_refl _) (Nat.le_refl _)
                refine ⟨_, h1, ?_⟩
                have e1 : p.1 = 0 := by omega
                have e2 : p.2.1 = 0 := by omega
                have e3 : p.2.2 = 0 := by omega
                rw [hp, e1, e2, e3]
                rw [e1, e2, e3] at hv
                subst hv
                simp only [moved, Nat.sub_zero, if_true]
                exact .sliceEmp r off a 0 (.inl rfl)
          · cases hv
      · cases hv
  · cases hv

end Go.Proofs.Ytmjcfcbjccepnaa.Eng
