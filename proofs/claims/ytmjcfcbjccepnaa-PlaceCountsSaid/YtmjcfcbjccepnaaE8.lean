/-
  Every operation but calls of functions: what the abstract machine says of it, the real one does.
-/
import Derived.Test.YtmjcfcbjccepnaaE7
namespace Go.Proofs.Ytmjcfcbjccepnaa.Eng
open Go Go.RowKit
set_option linter.unusedSimpArgs false
set_option linter.unusedVariables false
set_option linter.unusedSectionVars false

variable {E : Env} {H H' : AH} {φ φ' : Rep} {w w' : World}

theorem VR.natInt {M : Nat} (n : Nat) : VR M φ (.int .i64 n) (goInt n) := .int _ _

theorem len_sound (h : Rel E H φ w) {argTypes : Array TypeId} {ty : TypeId} {args : List Value} {args' : Array Value} {v : Value} (ha : VRs E.M φ args args'.toList) (hv : evLen E argTypes args H = some v) :
    (Builtin.len_ argTypes ty args').run E.P w = .ok v w ∧ VR E.M φ v v := by
  unfold evLen at hv
  split at hv
  · rename_i t x h0
    obtain ⟨x', rfl, hx⟩ := argsOne rfl ha
    split at hv
    · rename_i hu; cases hv; cases hx; exact ⟨by simp [Builtin.len_, h0, run_underlying hu, goInt], .int _ _⟩
    · rename_i hu; cases hv
      obtain ⟨b, c, rfl⟩ : ∃ b c, x' = .slice b _ c := by cases hx <;> exact ⟨_, _, rfl⟩
      exact ⟨by simp [Builtin.len_, h0, run_underlying hu, goInt], .int _ _⟩
    · rename_i hu; cases hv; exact ⟨by simp [Builtin.len_, h0, run_underlying hu, goInt], .int _ _⟩
    · rename_i hu; cases hv; cases hx; exact ⟨by simp [Builtin.len_, h0, run_underlying hu, goInt], .int _ _⟩
    · rename_i hu
      rename_i r
      cases hm : mapAt E H r with
      | none => simp [hm] at hv
      | some p =>
        obtain ⟨es, o⟩ := p
        simp [hm] at hv; subst hv
        obtain ⟨r1, ri, mes, clock, rfl, _, _, rfl, _, g3, g4, g5⟩ := mapAt_sound h hx hm
        have hl : es.length = mes.size := by simpa using g4.length
        exact ⟨by simp [Builtin.len_, h0, run_underlying hu, goInt, getMap_run g3, hl], .int _ _⟩
    · cases hv
  · cases hv

theorem cap_sound {argTypes : Array TypeId} {ty : TypeId} {args : List Value} {args' : Array Value} {v : Value} (ha : VRs E.M φ args args'.toList) (hv : evCap E argTypes args = some v) :
    (Builtin.cap_ argTypes ty args').run E.P w = .ok v w ∧ VR E.M φ v v := by
  unfold evCap at hv
  split at hv
  · rename_i t x h0
    obtain ⟨x', rfl, hx⟩ := argsOne rfl ha
    split at hv
    · rename_i hu
      split at hv
      · cases hv
      · rename_i hn
        cases hv
        rcases VR.sliceForm hx with ⟨h4, _⟩ | ⟨a1, h4, ho, rfl⟩ | ⟨r, off, c', ri, h4, rfl, hφ, hcc, hle, hbd⟩ | ⟨r, off, a1, h4, rfl, hk, hcc⟩
        · cases h4
        · exact ⟨by simp [Builtin.cap_, h0, run_underlying hu, goInt], .int _ _⟩
        · cases h4
          rcases hcc with rfl | rfl
          · exact ⟨by simp [Builtin.cap_, h0, run_underlying hu, goInt], .int _ _⟩
          · exact absurd ⟨by simp, rfl⟩ hn
        · cases h4
          rcases hcc with rfl | rfl
          · exact ⟨by simp [Builtin.cap_, h0, run_underlying hu, goInt], .int _ _⟩
          · exact absurd ⟨by simp, rfl⟩ hn
    · rename_i hu
      cases hv
      cases hx
      exact ⟨by simp [Builtin.cap_, h0, run_underlying hu, goInt], .int _ _⟩
    · cases hv
  · cases hv

theorem minL_sound (mx : Bool) : ∀ (l : List Value) (k : IntKind) (n : Int) (v : Value) (l' : List Value), VRs E.M φ l l' → evMinL mx (.int k n) l = some v →
    (l'.foldlM (if mx then Builtin.max2 else Builtin.min2) (.int k n)).run E.P w = .ok v w ∧ VR E.M φ v v
  | [], k, n, v, l', hl, h => by
    cases hl
    simp [evMinL] at h; subst h
    exact ⟨by cases mx <;> simp, .int _ _⟩
  | y :: l, k, n, v, l', hl, h => by
    cases hl with | cons _ y' _ l' hy hl =>
    unfold evMinL at h
    cases h2 : evMin2 mx (.int k n) y with
    | none => simp [h2] at h
    | some z =>
      simp only [h2, Option.bind_some] at h
      unfold evMin2 at h2
      split at h2
      · rename_i k1 n1 k' b hxx
        injection hxx with e1 e2; subst e1; subst e2
        split at h2
        · rename_i hk; subst hk
          cases h2
          cases hy
          obtain ⟨g1, g2⟩ := minL_sound mx l _ _ v l' hl h
          refine ⟨?_, g2⟩
          rw [List.foldlM_cons, Sem.run_bind]
          cases mx
          · simp only [Bool.false_eq_true, if_false, Builtin.min2, Sem.run_pure, Result.andThen_ok]
            simpa using g1
          · simp only [if_true, Builtin.max2, Sem.run_pure, Result.andThen_ok]
            simpa using g1
        · cases h2
      · cases h2

theorem min_sound (mx : Bool) {argTypes : Array TypeId} {ty : TypeId} {args : List Value} {args' : Array Value} {v : Value} (ha : VRs E.M φ args args'.toList) (hv : evMin mx args = some v) :
    ((if mx then Builtin.max_ argTypes ty args' else Builtin.min_ argTypes ty args') : Sem Value).run E.P w = .ok v w ∧ VR E.M φ v v := by
  unfold evMin at hv
  split at hv
  · rename_i k n r
    obtain ⟨l⟩ := args'
    cases ha with | cons _ y _ l h1 h2 =>
    cases h1
    have := minL_sound (w := w) mx r k n v l h2 hv
    cases mx
    · simpa [Builtin.min_] using this
    · simpa [Builtin.max_] using this
  · cases hv

theorem typeAssert_sound (hz0 : ZeroOk E) {x x' v : Value} {xt t : TypeId} {ok : Bool} (hx : VR E.M φ x x') (hv : evTypeAssert E x t ok = some v) (w : World) :
    ∃ v', (Instr.typeAssert x' xt t ok).run E.P w = .ok v' w ∧ VR E.M φ v v' := by
  unfold evTypeAssert at hv
  have fail : ∀ (z : Value), zeroT E t = some z → VR E.M φ (.tuple #[z, .bool false]) (.tuple #[z, .bool false]) := fun z hz =>
    .tuple _ _ (.cons _ _ _ _ (VR.plain (hz0 _ _ hz)) (.cons _ _ _ _ (.bool _) .nil))
  split at hv
  · cases hv
  · cases hv
  · rename_i d hni hu
    split at hv
    · rename_i u y
      cases hx with | iface _ _ y' hy =>
      by_cases ht : u = t
      · rw [if_pos ht] at hv
        cases hv
        refine ⟨if ok then .tuple #[y', .bool true] else y', ?_, ?_⟩
        · cases d <;> first
            | exact (hni _ rfl).elim
            | (cases ok <;> simp [Instr.typeAssert, run_underlying hu, ht])
        · cases ok
          · exact hy
          · exact .tuple _ _ (.cons _ _ _ _ hy (.cons _ _ _ _ (.bool _) .nil))
      · rw [if_neg ht] at hv
        cases ok
        · simp at hv
        · simp at hv
          obtain ⟨z, hz, rfl⟩ := hv
          refine ⟨_, ?_, fail z hz⟩
          cases d <;> first
            | exact (hni _ rfl).elim
            | simp [Instr.typeAssert, run_underlying hu, ht, run_zero_some hz]
    · cases hx
      cases ok
      · simp at hv
      · simp at hv
        obtain ⟨z, hz, rfl⟩ := hv
        refine ⟨_, ?_, fail z hz⟩
        cases d <;> first
          | exact (hni _ rfl).elim
          | simp [Instr.typeAssert, run_underlying hu, run_zero_some hz]
    · cases hv

/-- What an operation comes to in the real machine. -/
def Yield (E : Env) (H H' : AH) (φ : Rep) (w : World) (v : Value) (r : Result Next) : Prop :=
  ∃ v' w' φ', (r = .ok (.value v') w' ∨ (r = .ok .skip w' ∧ v' = undef)) ∧ VR E.M φ' v v' ∧ Out E H H' φ φ' w w'

theorem Yield.pure {E : Env} {H : AH} {φ : Rep} {w : World} {v v' : Value} {s : Sem Value} (h : Rel E H φ w) (hr : s.run E.P w = .ok v' w) (hv : VR E.M φ v v') : Yield E H H φ w v ((do pure (.value (← s)) : Sem Next).run E.P w) :=
  ⟨v', w, φ, .inl (by simp [hr]), hv, Out.refl h⟩

theorem map_some {α β : Type} {o : Option α} {f : α → β} {b : β} (h : o.map f = some b) : ∃ a, o = some a ∧ f a = b := by
  cases o with
  | none => cases h
  | some a => exact ⟨a, rfl, Option.some.inj h⟩

theorem mem_of_get {x : Operand} {xs : Array Operand} (h : x ∈ xs.toList) : x ∈ xs := by simpa using h

theorem parts_rel {ρ ρ' : Operand → Value} (ps : Array (Nat × Operand)) (hρ : ∀ p ∈ ps.toList, VR E.M φ (ρ p.2) (ρ' p.2)) :
    (ps.toList.map fun p => (p.1, ρ p.2)).map (fun p => p.1) = (ps.map fun (i, x) => (i, ρ' x)).toList.map (fun p => p.1) ∧ VRs E.M φ ((ps.toList.map fun p => (p.1, ρ p.2)).map fun p => p.2) ((ps.map fun (i, x) => (i, ρ' x)).toList.map fun p => p.2) := by
  refine ⟨by simp, ?_⟩
  simp only [List.map_map, Array.toList_map]
  exact VRs.map_mem _ fun p hp => hρ p hp

theorem evOp_sound (hE : EnvOk E) (hz0 : ZeroOk E) (h : Rel E H φ w) (o : Oper) {ρ ρ' : Operand → Value} (hρ : ∀ x ∈ o.op.operands.toList, VR E.M φ (ρ x) (ρ' x)) {v : Value} (hv : evOp E o.op ρ H = some (v, H')) :
    Yield E H H' φ w v ((execOp ρ' o).run E.P w) := by
  obtain ⟨dst, op, ty, pos, after, guard⟩ := o
  simp only at hρ hv
  unfold evOp at hv
  unfold execOp
  simp only
  split at hv
  case h_1 x => cases hv; exact ⟨_, w, φ, .inl rfl, hρ _ (by simp [Op.operands]), Out.refl h⟩
  case h_2 x => cases hv; exact ⟨_, w, φ, .inl rfl, hρ _ (by simp [Op.operands]), Out.refl h⟩
  case h_3 c a b =>
    split at hv
    · rename_i t hc
      cases hv
      have h1 := hρ c (by simp [Op.operands])
      rw [hc] at h1
      have hc' : ρ' c = .bool t := by generalize ρ' c = q at h1; cases h1; rfl
      refine ⟨if t then ρ' a else ρ' b, w, φ, .inl (by simp [asBool, hc']), ?_, Out.refl h⟩
      cases t
      · exact hρ b (by simp [Op.operands])
      · exact hρ a (by simp [Op.operands])
    · cases hv
  case h_4 e =>
    cases hz : zeroT E e with
    | none => simp [hz] at hv
    | some z =>
      cases hs : sizeT E e with
      | none => simp [hz, hs] at hv
      | some n =>
        simp [hz, hs] at hv
        obtain ⟨rfl, rfl⟩ := hv
        obtain ⟨v', w', φ', h1, h2, h3⟩ := alloc_sound (n := n) h hz0 hz
        exact ⟨v', w', φ', .inl (by simp [h1]), h2, h3⟩
  case h_5 e x =>
    cases hs : sizeT E e with
    | none => simp [hs] at hv
    | some n =>
      simp [hs] at hv
      obtain ⟨rfl, rfl⟩ := hv
      obtain ⟨v', w', φ', h1, h2, h3⟩ := box_sound h (hρ x (by simp [Op.operands])) e n
      exact ⟨v', w', φ', .inl (by simp [h1]), h2, h3⟩
  case h_6 t ps =>
    obtain ⟨u, hu, hq⟩ := map_some hv
    cases hq
    obtain ⟨e1, e2⟩ := parts_rel (E := E) (φ := φ) (ρ := ρ) (ρ' := ρ') ps (fun p hp => hρ p.2 (by simp [Op.operands]; exact ⟨p.1, by simpa using hp⟩))
    obtain ⟨v', h1, h2⟩ := build_sound hz0 e1 e2 hu w
    exact Yield.pure h h1 h2
  case h_7 t n ps =>
    obtain ⟨e1, e2⟩ := parts_rel (E := E) (φ := φ) (ρ := ρ) (ρ' := ρ') ps (fun p hp => hρ p.2 (by simp [Op.operands]; exact ⟨p.1, by simpa using hp⟩))
    obtain ⟨v', w', φ', h1, h2, h3⟩ := buildSlice_sound h hz0 e1 e2 hv
    exact ⟨v', w', φ', .inl (by simp [h1]), h2, h3⟩
  case h_8 t a =>
    have h1 := hρ a (by simp [Op.operands])
    split at hv
    · rename_i ad ha
      rw [ha] at h1
      obtain ⟨a', ha', hr⟩ := VR.addr h1
      obtain ⟨u, hu, hq⟩ := map_some hv
      cases hq
      obtain ⟨v', g1, g2⟩ := ldVar_sound hE h hr hu
      exact Yield.pure h (by simp [Instr.loadAt, ha', Instr.sureAddr, g1]) g2
    · cases hv
  case h_9 t a x =>
    have h1 := hρ a (by simp [Op.operands])
    have h2 := hρ x (by simp [Op.operands])
    split at hv
    · rename_i ad ha
      rw [ha] at h1
      obtain ⟨a', ha', hr⟩ := VR.addr h1
      split at hv
      · rename_i hs
        obtain ⟨u, hu, hq⟩ := map_some hv
        cases hq
        obtain ⟨w', g1, g2⟩ := stc_sound h hr h2.cells hu
        have hsz : (ρ x).cells.size = (ρ' x).cells.size := by simpa using h2.cells.length
        refine ⟨undef, w', φ, .inr ⟨?_, rfl⟩, VR.undef, g2⟩
        simp [Instr.storeAt, ha', Instr.sureAddr, storeVar, run_size_some hs, hsz, g1]
      · cases hv
    · cases hv
  case h_10 x =>
    have h1 := hρ x (by simp [Op.operands])
    split at hv
    · rename_i a ha
      cases hv
      rw [ha] at h1
      obtain ⟨a', ha', hr⟩ := VR.addr h1
      exact ⟨_, w, φ, .inl (by simp [ha']), hr.vr, Out.refl h⟩
    · rename_i f a b ha
      cases hv
      rw [ha] at h1
      generalize hq : ρ' x = q at h1
      cases h1 with | func _ _ _ a' b' g1 g2 => exact ⟨_, w, φ, .inl (by simp [hq]), .func _ _ _ _ _ g1 g2, Out.refl h⟩
    · rename_i a b c ha
      cases hv
      rw [ha] at h1
      generalize hq : ρ' x = q at h1
      obtain ⟨a', b', c', rfl⟩ : ∃ a' b' c', q = .slice a' b' c' := by cases h1 <;> exact ⟨_, _, _, rfl⟩
      exact ⟨_, w, φ, .inl (by simp [hq]), h1, Out.refl h⟩
    · rename_i r ha
      cases hv
      rw [ha] at h1
      generalize hq : ρ' x = q at h1
      obtain ⟨r', rfl⟩ : ∃ r', q = .map r' := by cases h1 <;> exact ⟨_, rfl⟩
      exact ⟨_, w, φ, .inl (by simp [hq]), h1, Out.refl h⟩
    · cases hv
  case h_11 bop t x y _ =>
    obtain ⟨u, hu, hq⟩ := map_some hv
    cases hq
    obtain ⟨g1, g2⟩ := evBin_sound hu (hρ x (by simp [Op.operands])) (hρ y (by simp [Op.operands])) x y w
    exact Yield.pure h g1 g2
  case h_12 uop t x =>
    obtain ⟨u, hu, hq⟩ := map_some hv
    cases hq
    obtain ⟨g1, g2⟩ := evUn_sound hu (hρ x (by simp [Op.operands])) w
    exact Yield.pure h g1 g2
  case h_13 s d x =>
    obtain ⟨v', w', φ', h1, h2, h3⟩ := convert_sound hE h (hρ x (by simp [Op.operands])) hv
    exact ⟨v', w', φ', .inl (by simp [h1]), h2, h3⟩
  case h_14 t x =>
    split at hv
    · cases hv
    · cases hv
    · rename_i d hni hu
      cases hv
      refine Yield.pure h (v' := .iface t (ρ' x)) ?_ (.iface _ _ _ (hρ x (by simp [Op.operands])))
      unfold Instr.makeInterface
      simp only [Sem.run_bind, run_underlying hu, Result.andThen_ok]
      cases hd : d <;> first
        | (exact absurd (hd ▸ hu) (hni _))
        | rfl
  case h_15 f a b =>
    cases hv
    refine Yield.pure h (v' := .func f (a.map ρ') (b.map ρ')) (by simp [Instr.makeFunc]) (.func _ _ _ _ _ ?_ ?_)
    · rw [Array.toList_map, Array.toList_map]; exact VRs.map_mem _ fun x hx => hρ x (by simp [Op.operands]; exact .inl (by simpa using hx))
    · rw [Array.toList_map, Array.toList_map]; exact VRs.map_mem _ fun x hx => hρ x (by simp [Op.operands]; exact .inr (by simpa using hx))
  case h_16 t =>
    cases hv
    refine ⟨.map (some w.heap.size), w.alloc (.map #[] 0), repUpd φ H.length ⟨w.heap.size, 0, 0, 0⟩, .inl (by simp [Instr.makeMap]), ?_, ?_⟩
    · exact .mapNew H.length ⟨w.heap.size, 0, 0, 0⟩ (if_pos rfl)
    · exact Out.push h rfl ⟨⟨w.heap.size, 0, 0, 0⟩, #[], 0, if_pos rfl, h.below.size, heap_alloc_at _ _, .nil, .nil⟩
  case h_17 t l c =>
    obtain ⟨v', w', φ', h1, h2, h3⟩ := makeSlice_sound h hz0 (hρ l (by simp [Op.operands])) (hρ c (by simp [Op.operands])) hv
    exact ⟨v', w', φ', .inl (by simp [h1]), h2, h3⟩
  case h_18 t x lo hi mx =>
    obtain ⟨u, hu, hq⟩ := map_some hv
    cases hq
    have hb : ∀ (o : Option Operand), (∀ y, o = some y → y ∈ (Op.slice t x lo hi mx).operands.toList) → ∀ (b d : Nat), ∀ r, bnd (o.map ρ) b d = some r → o.map ρ = o.map ρ' := by
      intro o ho b d r hr
      cases o with
      | none => rfl
      | some y =>
        have hy := hρ y (ho y rfl)
        simp only [Option.map_some] at hr ⊢
        unfold bnd at hr
        cases hz : ρ y <;> simp [hz] at hr
        rw [hz] at hy
        generalize hq : ρ' y = q at hy
        cases hy
        rfl
    have hlo : lo.map ρ = lo.map ρ' ∧ hi.map ρ = hi.map ρ' ∧ mx.map ρ = mx.map ρ' := by
      have m1 : ∀ y, lo = some y → y ∈ (Op.slice t x lo hi mx).operands.toList := fun y hy => by subst hy; simp [Op.operands]
      have m2 : ∀ y, hi = some y → y ∈ (Op.slice t x lo hi mx).operands.toList := fun y hy => by subst hy; simp [Op.operands]
      have m3 : ∀ y, mx = some y → y ∈ (Op.slice t x lo hi mx).operands.toList := fun y hy => by subst hy; simp [Op.operands]
      have key : ∀ n top p, bnds n top (lo.map ρ) (hi.map ρ) (mx.map ρ) = some p → lo.map ρ = lo.map ρ' ∧ hi.map ρ = hi.map ρ' ∧ mx.map ρ = mx.map ρ' := by
        intro n top p hp
        unfold bnds at hp
        split at hp
        · rename_i a b hma hmb
          rw [← hma, ← hmb] at hp
          cases e1 : bnd (mx.map ρ) 0 top with
          | none => simp [e1] at hp
          | some m =>
            cases e2 : bnd (hi.map ρ) n m with
            | none => simp [e1, e2] at hp
            | some q =>
              cases e3 : bnd (lo.map ρ) 0 q with
              | none => simp [e1, e2, e3] at hp
              | some l => exact ⟨hb lo m1 _ _ _ e3, hb hi m2 _ _ _ e2, hb mx m3 _ _ _ e1⟩
        · cases hp
        · rename_i hmx
          have : mx = none := by cases mx <;> simp_all
          subst this
          cases e2 : bnd (hi.map ρ) n top with
          | none => simp [e2] at hp
          | some q =>
            cases e3 : bnd (lo.map ρ) 0 q with
            | none => simp [e2, e3] at hp
            | some l => exact ⟨hb lo m1 _ _ _ e3, hb hi m2 _ _ _ e2, rfl⟩
      unfold evSlice at hu
      split at hu
      · split at hu
        · cases hu
        · rename_i s _ hm
          have : mx = none := by cases mx <;> simp_all
          subst this
          obtain ⟨p, hp, _⟩ := map_some hu
          exact key _ _ p hp
      · rename_i e base n cap _ _
        cases hs : sizeT E e with
        | none => simp [hs] at hu
        | some size =>
          simp only [hs, Option.bind_some] at hu
          split at hu
          · split at hu
            · obtain ⟨p, hp, _⟩ := map_some hu
              exact key _ _ p hp
            · split at hu
              · obtain ⟨p, hp, _⟩ := map_some hu
                exact key _ _ p hp
              · cases hu
          · cases hu
      · cases hu
    rw [hlo.1, hlo.2.1, hlo.2.2] at hu
    obtain ⟨v', g1, g2⟩ := evSlice_sound h hu (hρ x (by simp [Op.operands]))
    exact Yield.pure h g1 g2
  case h_19 t x f =>
    obtain ⟨u, hu, hq⟩ := map_some hv
    cases hq
    obtain ⟨v', g1, g2⟩ := evFieldAddr_sound hu (hρ x (by simp [Op.operands])) w
    exact Yield.pure h g1 g2
  case h_20 t x f =>
    obtain ⟨u, hu, hq⟩ := map_some hv
    cases hq
    obtain ⟨v', g1, g2⟩ := evField_sound hu (hρ x (by simp [Op.operands])) w
    exact Yield.pure h g1 g2
  case h_21 t x i =>
    obtain ⟨u, hu, hq⟩ := map_some hv
    cases hq
    obtain ⟨v', g1, g2⟩ := evIndexAddr_sound hu (hρ x (by simp [Op.operands])) (hρ i (by simp [Op.operands])) w
    exact Yield.pure h g1 g2
  case h_22 t x i =>
    obtain ⟨u, hu, hq⟩ := map_some hv
    cases hq
    obtain ⟨v', g1, g2⟩ := evIndex_sound hu (hρ x (by simp [Op.operands])) (hρ i (by simp [Op.operands])) w
    exact Yield.pure h g1 g2
  case h_23 t x i ok =>
    obtain ⟨u, hu, hq⟩ := map_some hv
    cases hq
    obtain ⟨v', g1, g2⟩ := lookup_sound hz0 h (hρ x (by simp [Op.operands])) (hρ i (by simp [Op.operands])) hu
    exact Yield.pure h g1 g2
  case h_24 t m k x =>
    obtain ⟨u, hu, hq⟩ := map_some hv
    cases hq
    obtain ⟨w', g1, g2⟩ := mapUpdate_sound h (hρ m (by simp [Op.operands])) (hρ k (by simp [Op.operands])) (hρ x (by simp [Op.operands])) hu
    exact ⟨undef, w', φ, .inr ⟨by simp [g1], rfl⟩, VR.undef, g2⟩
  case h_25 t m k x =>
    obtain ⟨u, hu, hq⟩ := map_some hv
    cases hq
    obtain ⟨w', g1, g2⟩ := mapUpdate_sound h (hρ m (by simp [Op.operands])) (hρ k (by simp [Op.operands])) (hρ x (by simp [Op.operands])) hu
    exact ⟨undef, w', φ, .inr ⟨by simp [g1], rfl⟩, VR.undef, g2⟩
  case h_26 x xt t ok =>
    obtain ⟨u, hu, hq⟩ := map_some hv
    cases hq
    obtain ⟨v', g1, g2⟩ := typeAssert_sound (xt := xt) hz0 (hρ x (by simp [Op.operands])) hu w
    exact Yield.pure h g1 g2
  case h_27 x i =>
    have h1 := hρ x (by simp [Op.operands])
    split at hv
    · rename_i vs ha
      rw [ha] at h1
      obtain ⟨u, hu, hq⟩ := map_some hv
      cases hq
      generalize hq : ρ' x = q at h1
      cases h1 with | tuple _ vs' hvs =>
      obtain ⟨v', g1, g2⟩ := hvs.get i _ (by simpa using hu)
      have g1' : vs'[i]? = some v' := by simpa using g1
      exact Yield.pure h (by simp [Instr.extract, hq, g1']) g2
    · cases hv
  case h_28 b args argTypes =>
    have hargs : VRs E.M φ (args.toList.map ρ) (args.map ρ').toList := by
      rw [Array.toList_map]
      exact VRs.map_mem _ fun x hx => hρ x (by simp [Op.operands, Call.operands]; simpa using hx)
    simp only [resolve, invoke, Sem.run_bind, Sem.run_pure, Result.andThen_ok]
    unfold evBuiltin at hv
    unfold Go.builtin
    split at hv
    · obtain ⟨u, hu, hq⟩ := map_some hv
      cases hq
      obtain ⟨g1, g2⟩ := len_sound (ty := ty) h hargs hu
      exact Yield.pure h g1 g2
    · obtain ⟨u, hu, hq⟩ := map_some hv
      cases hq
      obtain ⟨g1, g2⟩ := cap_sound (ty := ty) (w := w) hargs hu
      exact Yield.pure h g1 g2
    · obtain ⟨v', w', φ', h1, h2, h3⟩ := append_sound (ty := ty) hE h hargs hv
      exact ⟨v', w', φ', .inl (by simp [h1]), h2, h3⟩
    · obtain ⟨v', w', φ', h1, h2, h3⟩ := copy_sound (ty := ty) hE h hargs hv
      exact ⟨v', w', φ', .inl (by simp [h1]), h2, h3⟩
    · obtain ⟨v', w', φ', h1, h2, h3⟩ := clear_sound (ty := ty) hz0 h hargs hv
      exact ⟨v', w', φ', .inl (by simp [h1]), h2, h3⟩
    · obtain ⟨u, hu, hq⟩ := map_some hv
      cases hq
      obtain ⟨w', g1, g2⟩ := delete_sound (ty := ty) h hargs hu
      exact ⟨undef, w', φ, .inl (by simp [g1]), VR.undef, g2⟩
    · obtain ⟨u, hu, hq⟩ := map_some hv
      cases hq
      obtain ⟨g1, g2⟩ := min_sound (ty := ty) (argTypes := argTypes) (w := w) false hargs hu
      exact Yield.pure h (by simpa using g1) g2
    · obtain ⟨u, hu, hq⟩ := map_some hv
      cases hq
      obtain ⟨g1, g2⟩ := min_sound (ty := ty) (argTypes := argTypes) (w := w) true hargs hu
      exact Yield.pure h (by simpa using g1) g2
    · cases hv
  case h_29 => cases hv

end Go.Proofs.Ytmjcfcbjccepnaa.Eng
