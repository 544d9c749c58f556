/-
  The steps of a region in the order of the text: the real machine follows.
-/
import Derived.Test.YtmjcfcbjccepnaaE9
namespace Go.Proofs.Ytmjcfcbjccepnaa.Eng
open Go Go.RowKit
set_option linter.unusedSimpArgs false
set_option linter.unusedVariables false
set_option linter.unusedSectionVars false

variable {E : Env} {H H' : AH} {φ φ' φ'' : Rep} {w w' w'' : World}

/-- The slots. -/
structure SR (E : Env) (φ : Rep) (s : List Value) (a : Act) (n : Nat) : Prop where
  defers : a.defers = []
  size : a.tmps.size = n
  get : ∀ i, i < n → VR E.M φ (sget s i) (a.tmps.getD i undef)

theorem SR.mono {s : List Value} {a : Act} {n : Nat} (h : SR E φ s a n) (hx : Ext φ φ') : SR E φ' s a n := ⟨h.defers, h.size, fun i hi => (h.get i hi).mono hx⟩

theorem SR.put {s : List Value} {a : Act} {n : Nat} (h : SR E φ s a n) {d : Option Tmp} {v v' : Value} (hv : VR E.M φ v v') : SR E φ (sputO s d v) (a.put d v') n := by
  cases d with
  | none => exact h
  | some d =>
    refine ⟨h.defers, by simp [Act.put, h.size], fun i hi => ?_⟩
    show VR E.M φ (sget (sput s d v) i) ((a.tmps.setIfInBounds d v').getD i undef)
    rw [sget_sput]
    have hsz := h.size
    by_cases e : d = i
    · subst e
      rw [if_pos rfl]
      simp [hi, hsz]
      exact hv
    · rw [if_neg e]
      have := h.get i hi
      simp [hi, hsz] at this ⊢
      rw [Array.getElem_setIfInBounds_ne (by omega) e]
      exact this

theorem sval_sound {s : List Value} {a : Act} {n : Nat} (h : SR E φ s a n) {x : Operand} (hx : opndOk E n x = true) : VR E.M φ (sval s x) (a.eval x) := by
  cases x with
  | tmp t => exact h.get t (by simpa [opndOk] using hx)
  | const v => exact VR.plain hx
  | global g => exact .ptrOld _ (by simpa [opndOk] using hx)
  | func f => exact .func _ _ _ _ _ .nil .nil

theorem operOk_operands {n : Nat} {o : Oper} (h : operOk E n o = true) : ∀ x ∈ o.op.operands.toList, opndOk E n x = true := by
  simp only [operOk, Bool.and_eq_true] at h
  exact fun x hx => List.all_eq_true.1 h.1 x hx
theorem operOk_dst {n : Nat} {o : Oper} (h : operOk E n o = true) {d : Tmp} (hd : o.dst = some d) : d < n := by
  simp only [operOk, Bool.and_eq_true, hd, decide_eq_true_eq] at h
  exact h.2

/-- A call answers as the abstract one does. -/
structure CallSound (E : Env) (call : CallK Prop) : Prop where
  calls : ∀ f vs H k φ w vs', call f vs H k → Rel E H φ w → VRs E.M φ vs vs' → Calls E.P f vs'.toArray w fun e w' => ∃ v v' H' φ', e = .returned v' ∧ k v H' ∧ VR E.M φ' v v' ∧ Out E H H' φ φ' w w'
  enters : ∀ f vs H k φ w vs', call f vs H k → Rel E H φ w → VRs E.M φ vs vs' → ∀ args w1, (callFunc f args).run E.P w1 = .ok (.enter f args) w1

theorem Yield.wp {o : Oper} {a : Act} {next : Act → World → Prop} {Q : Exit → Act → World → Prop} {v : Value} (h : Yield E H H' φ w v ((execOp a.eval o).run E.P w))
    (hn : ∀ v' w' φ', VR E.M φ' v v' → Out E H H' φ φ' w w' → next (a.put o.dst v') w') : o.wp E.P a w next Q := by
  obtain ⟨v', w', φ', hr, hv, hout⟩ := h
  unfold Oper.wp
  rcases hr with hr | ⟨hr, rfl⟩
  · rw [hr]; exact hn v' w' φ' hv hout
  · rw [hr]; exact hn _ w' φ' hv hout

theorem callOf_operands {f : Operand} {args : Array Operand} {tys : Array TypeId} : (Op.call ⟨.value f, args, tys⟩).operands.toList = f :: args.toList := by simp [Op.operands, Call.operands]

/-- A call of a function value. -/
theorem call_wp {call : CallK Prop} (hc : CallSound E call) (h : Rel E H φ w) {o : Oper} {a : Act} {s : List Value} {n : Nat} (hs : SR E φ s a n) (ho : operOk E n o = true) {g : FuncId} {vs : List Value} (hg : callOf s o.op = some (g, vs)) {k : Value → AH → Prop}
    (hcall : call g vs H k) {next : Act → World → Prop} {Q : Exit → Act → World → Prop}
    (hn : ∀ v v' H' w' φ', k v H' → VR E.M φ' v v' → Out E H H' φ φ' w w' → next (a.put o.dst v') w') : o.wp E.P a w next Q := by
  have hop := operOk_operands ho
  unfold callOf at hg
  split at hg
  · rename_i f args tys heq
    split at hg
    · rename_i g1 first cap hf
      cases hg
      rw [heq, callOf_operands] at hop
      have hfv := sval_sound hs (hop f (by simp))
      rw [hf] at hfv
      generalize hq : a.eval f = q at hfv
      cases hfv with | func _ _ _ first' cap' h1 h2 =>
      have hargs : VRs E.M φ (args.toList.map (sval s)) (args.toList.map a.eval) := VRs.map_mem _ fun x hx => sval_sound hs (hop x (by simp [hx]))
      have hall := (h1.append hargs).append h2
      have hcs := hc.calls _ _ _ _ _ _ _ hcall h hall
      have hen := hc.enters _ _ _ _ _ _ _ hcall h hall
      have hrun : (execOp a.eval o).run E.P w = .ok (.enter g (first'.toList ++ args.toList.map a.eval ++ cap'.toList).toArray) w := by
        unfold execOp
        rw [heq]
        simp only [resolve, Deferred.ofValue, hq, Sem.run_bind, Sem.run_pure, Result.andThen_ok, invoke, hen]
        congr 2
        apply Array.ext'
        simp
      unfold Oper.wp
      rw [hrun, Oper.upon_enter]
      refine hcs.mono fun e w' ⟨v, v', H', φ', he, hk, hv, hout⟩ => ?_
      subst he
      exact hn v v' H' w' φ' hk hv hout
    · cases hg
  · cases hg

theorem evOper_wp (hE : EnvOk E) (hz0 : ZeroOk E) {call : CallK Prop} (hc : CallSound E call) {st : St} (h : Rel E st.H φ w) {o : Oper} {a : Act} {n : Nat} (hs : SR E φ st.s a n) (ho : operOk E n o = true) {k : St → Prop}
    (hv : evOper PropAns E call o st k) {next : Act → World → Prop} {Q : Exit → Act → World → Prop}
    (hn : ∀ st' v' w' φ', k st' → SR E φ' st'.s (a.put o.dst v') n → Out E st.H st'.H φ φ' w w' → next (a.put o.dst v') w') : o.wp E.P a w next Q := by
  have done : ∀ (v v' : Value) (H' : AH) (w' : World) (φ' : Rep), k ⟨sputO st.s o.dst v, H'⟩ → VR E.M φ' v v' → Out E st.H H' φ φ' w w' → next (a.put o.dst v') w' := fun v v' H' w' φ' hk hvr hout =>
    hn ⟨sputO st.s o.dst v, H'⟩ v' w' φ' hk ((hs.mono (hout.ext h)).put hvr) hout
  unfold evOper at hv
  split at hv
  · rename_i f args tys heq
    split at hv
    · rename_i g vs hg
      exact call_wp hc h hs ho (by rw [heq]; exact hg) hv fun v v' H' w' φ' hk hvr hout => done v v' H' w' φ' hk hvr hout
    · exact hv.elim
  · split at hv
    · rename_i v H' hev
      exact (evOp_sound hE hz0 h o (fun x hx => sval_sound hs (operOk_operands ho x hx)) hev).wp fun v' w' φ' hvr hout => done v v' H' w' φ' hv hvr hout
    · exact hv.elim

theorem wanted_sound {ops : Array Oper} {o : Oper} {s : List Value} {a : Act} {n : Nat} (hs : SR E φ s a n) (hops : ∀ o ∈ ops.toList, operOk E n o = true) : Region.wanted o (yielded ops a.tmps) = wantedA ops.toList o s := by
  unfold Region.wanted wantedA
  cases o.guard with
  | none => rfl
  | some g =>
    obtain ⟨j, want⟩ := g
    simp only [yielded]
    cases hj : ops[j]? with
    | none => simp [hj]
    | some oj =>
      have hj' : ops.toList[j]? = some oj := by simpa using hj
      have hmem : oj ∈ ops.toList := List.mem_of_getElem? hj'
      rw [hj']
      simp only [Option.bind_some]
      cases hd : oj.dst with
      | none => simp
      | some d =>
        have hdn := operOk_dst (hops oj hmem) hd
        have hg := hs.get d hdn
        have hsz := hs.size
        have hd2 : a.tmps[d]? = some (a.tmps.getD d undef) := by
          simp [hsz, hdn]
        simp only [Option.bind_some, hd2]
        generalize a.tmps.getD d undef = q at hg
        generalize sget s d = r at hg
        cases hg <;> simp

theorem evOps_wp (hE : EnvOk E) (hz0 : ZeroOk E) {call : CallK Prop} (hc : CallSound E call) {ops : Array Oper} {n : Nat} (hops : ∀ o ∈ ops.toList, operOk E n o = true) {Q : Exit → Act → World → Prop} :
    ∀ (rest : List Oper) (i : Nat) (st : St) (a : Act) (φ : Rep) (w : World) (k : St → Prop), ops.toList.drop i = rest → Rel E st.H φ w → SR E φ st.s a n → evOps PropAns E call ops.toList rest st k →
      (∀ st' a' φ' w', k st' → SR E φ' st'.s a' n → Out E st.H st'.H φ φ' w w' → Q .normal a' w') → wpOps E.P ops Q (List.range' i rest.length) a w
  | [], i, st, a, φ, w, k, hr, h, hs, hv, hq => hq st a φ w hv hs (Out.refl h)
  | o :: rest, i, st, a, φ, w, k, hr, h, hs, hv, hq => by
    have hoi : ops[i]? = some o := by
      have : (ops.toList.drop i)[0]? = some o := by rw [hr]; rfl
      simpa using this
    have hmem : o ∈ ops.toList := List.mem_of_getElem? (by simpa using hoi)
    have hr' : ops.toList.drop (i + 1) = rest := by
      rw [← List.drop_drop, hr]; rfl
    rw [List.length_cons, List.range'_succ, wpOps_cons]
    unfold wpOp
    rw [hoi]
    simp only
    unfold evOps at hv
    rw [wanted_sound hs hops]
    split
    · rename_i hw
      rw [if_pos hw] at hv
      refine .inl (evOper_wp hE hz0 hc h hs (hops o hmem) hv fun st' v' w' φ' hk hs' hout => ?_)
      exact evOps_wp hE hz0 hc hops rest (i + 1) st' _ φ' w' k hr' hout.rel hs' hk fun st'' a'' φ'' w'' hk' hs'' hout' => hq st'' a'' φ'' w'' hk' hs'' (hout.trans hout')
    · rename_i hw
      rw [if_neg hw] at hv
      exact evOps_wp hE hz0 hc hops rest (i + 1) ⟨sputO st.s o.dst undef, st.H⟩ _ φ w k hr' h (hs.put VR.undef) hv hq

end Go.Proofs.Ytmjcfcbjccepnaa.Eng
