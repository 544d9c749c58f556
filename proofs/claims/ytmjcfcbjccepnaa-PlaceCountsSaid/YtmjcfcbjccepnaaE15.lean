/-
  The abstract machine's word on code holds of the real one.
-/
import Derived.Test.YtmjcfcbjccepnaaE14
import Derived.Scope
import Derived.Laws.Sem
namespace Go.Proofs.Ytmjcfcbjccepnaa.Eng
open Go Go.RowKit
set_option linter.unusedSimpArgs false
set_option linter.unusedVariables false
set_option linter.unusedSectionVars false

variable {E : Env} {H H' H2 : AH} {φ φ' φ'' : Rep} {w w' w'' : World}

/-! ### The plan's order, and every order -/
structure Corr (ops : Array Oper) (l : List Nat) (listed : Array Bool) : Prop where
  size : listed.size = ops.size
  get : ∀ j, j < ops.size → listed.getD j true = l.contains j ∧ listed.getD j false = l.contains j

theorem Corr.set {ops : Array Oper} {l : List Nat} {listed : Array Bool} (h : Corr ops l listed) (j : Nat) (hj : j < ops.size) : Corr ops (j :: l) (listed.setIfInBounds j true) := by
  refine ⟨by simp [h.size], fun q hq => ?_⟩
  by_cases e : j = q
  · subst e
    simp [h.size, hq]
  · have := h.get q hq
    rw [getD_set_ne true e, getD_set_ne false e]
    have hc : (j :: l).contains q = l.contains q := by simp [Ne.symm e]
    rw [hc]; exact this

theorem Corr.ready {ops : Array Oper} (hok : regionOk ops.toList = true) {l : List Nat} {listed : Array Bool} (h : Corr ops l listed) (j : Nat) : j ∈ Region.ready .any ops listed ↔ j < ops.size ∧ readyL ops.toList l j = true := by
  rw [mem_ready]
  unfold readyL
  constructor
  · rintro ⟨h0, o, ho, hall⟩
    have hj : j < ops.size := (Array.getElem?_eq_some_iff.1 ho).1
    refine ⟨hj, ?_⟩
    rw [show ops.toList[j]? = some o by simpa using ho]
    rw [(h.get j hj).1] at h0
    simp only [h0, Bool.not_false, Bool.true_and]
    refine List.all_eq_true.2 fun i hi => ?_
    obtain ⟨e, he, hb, rfl⟩ := mem_bindsOf.1 hi
    have hlt := bindsOf_lt hok (show ops.toList[j]? = some o by simpa using ho) hi
    rw [← (h.get e.on (by omega)).2]
    exact hall e he hb
  · rintro ⟨hj, hr⟩
    have ho : ops[j]? = some ops[j] := by simp [hj]
    have ho' : ops.toList[j]? = some ops[j] := by simp [hj]
    rw [ho'] at hr
    simp only [Bool.and_eq_true, Bool.not_eq_true'] at hr
    refine ⟨by rw [(h.get j hj).1]; exact hr.1, ops[j], ho, fun e he hb => ?_⟩
    have hm : e.on ∈ bindsOf ops[j] := mem_bindsOf.2 ⟨e, he, hb, rfl⟩
    have hlt := bindsOf_lt hok ho' hm
    rw [(h.get e.on (by omega)).2]
    exact List.all_eq_true.1 hr.2 _ hm

theorem evPlan_altOf {call : CallK Prop} {ops : List Oper} {log : Log} {st : St} {k : St → Prop} : ∀ {ps : List Plan}, evPlan PropAns E call ops (altOf ps) log st k → ∀ p ∈ ps, evPlan PropAns E call ops p log st k
  | [], h, p, hp => by cases hp
  | [p], h, q, hq => by simp at hq; subst hq; exact h
  | p :: p' :: r, h, q, hq => by
    simp only [altOf, evPlan] at h
    rcases List.mem_cons.1 hq with rfl | hq
    · exact h _ (by simp)
    · exact evPlan_altOf (ps := p' :: r) (h _ (by simp)) q hq

theorem evPlan_altOf_ne {call : CallK Prop} {ops : List Oper} {log : Log} {st : St} {k : St → Prop} {ps : List Plan} (h : evPlan PropAns E call ops (altOf ps) log st k) : ps ≠ [] := by
  intro e; subst e; exact h

theorem openReads_nil {ops : List Oper} {log : Log} {i : Nat} (h : openReads ops log i = []) : FreeOf ops log i none := by
  intro x hx hb b hb2
  have : b ∈ openReads ops log i := by
    unfold openReads
    exact List.mem_flatMap.2 ⟨x, List.mem_filter.2 ⟨hx, by simp [hb]⟩, hb2⟩
  rw [h] at this; cases this

theorem openReads_all {ops : List Oper} {log : Log} {i : Nat} {l : List Nat} (h : ((openReads ops log i).all fun b => !l.contains b) = true) : FreeOf ops log i (some l) := by
  intro x hx hb b hb2
  have : b ∈ openReads ops log i := by
    unfold openReads
    exact List.mem_flatMap.2 ⟨x, List.mem_filter.2 ⟨hx, by simp [hb]⟩, hb2⟩
  have := List.all_eq_true.1 h b this
  simpa using this

theorem evPlan_any {call : CallK Prop} (hm : CallMono call) {ops : Array Oper} (hok : regionOk ops.toList = true) {k : St → Prop} : ∀ (n : Nat) (l : List Nat) (listed : Array Bool) (log : Log) (st : St), Corr ops l listed → Closed ops listed →
    evPlan PropAns E call ops.toList (planOf ops.toList n l) log st k → evAny E call ops k n listed log st
  | 0, l, listed, log, st, hc, hcl, h => by
    unfold planOf at h
    split at h
    · rename_i hall
      refine ⟨?_, h⟩
      cases hr : Region.ready .any ops listed with
      | nil => rfl
      | cons j r =>
        have hj : j ∈ Region.ready .any ops listed := by rw [hr]; simp
        obtain ⟨h0, o, ho, _⟩ := mem_ready.1 hj
        have hlt : j < ops.size := (Array.getElem?_eq_some_iff.1 ho).1
        rw [(hc.get j hlt).1] at h0
        have := List.all_eq_true.1 hall j (List.mem_range.2 (by simpa using hlt))
        rw [h0] at this; cases this
    · exact h.elim
  | n + 1, l, listed, log, st, hc, hcl, h => by
    unfold planOf at h
    split at h
    · rename_i j hf
      have hp := List.find?_some hf
      have hjl : j < ops.size := by simpa using List.mem_range.1 (List.mem_of_find?_eq_some hf)
      simp only [Bool.and_eq_true] at hp
      have hr : j ∈ Region.ready .any ops listed := (hc.ready hok j).2 ⟨hjl, hp.1⟩
      have ho : ops.toList[j]? = some ops[j] := by simp [hjl]
      have hq : isQuiet ops[j].op = true := by have := hp.2; unfold quietAt at this; rw [ho] at this; exact this
      simp only [evPlan, ho] at h
      split at h
      · rename_i hw
        split at h
        · rename_i v H' hev
          have := quiet_same hq hev
          subst this
          refine evAny_first hm hok n listed log st _ _ hcl hr ⟨_, ho, hq, by rw [if_pos hw]; exact ⟨v, hev, rfl, rfl⟩⟩ ?_
          exact evPlan_any hm hok n _ _ _ _ (hc.set j hjl) (hcl.set hr) h
        · exact h.elim
      · rename_i hw
        refine evAny_first hm hok n listed log st _ _ hcl hr ⟨_, ho, hq, by rw [if_neg hw]; exact ⟨rfl, rfl⟩⟩ ?_
        refine evAny_log hm _ _ log _ _ ?_ (evPlan_any hm hok n _ _ _ _ (hc.set j hjl) (hcl.set hr) h)
        intro x hx
        rcases List.mem_cons.1 hx with rfl | hx
        · exact .inl rfl
        · exact .inr hx
    · rename_i hf
      have hne := evPlan_altOf_ne h
      have hall := evPlan_altOf h
      refine ⟨fun h0 => ?_, fun j hj => ?_⟩
      · refine absurd ?_ hne
        rw [List.map_eq_nil_iff, List.filter_eq_nil_iff]
        intro j hj hr
        have : j ∈ Region.ready .any ops listed := (hc.ready hok j).2 ⟨by simpa using hj, hr⟩
        rw [h0] at this; cases this
      · obtain ⟨hjl, hr⟩ := (hc.ready hok j).1 hj
        have h := hall (.loud j (planOf ops.toList n (j :: l))) (List.mem_map.2 ⟨j, List.mem_filter.2 ⟨by simpa using hjl, hr⟩, rfl⟩)
        have ho : ops.toList[j]? = some ops[j] := by simp [hjl]
        have go := fun log st => evPlan_any (k := k) hm hok n _ _ log st (hc.set j hjl) (hcl.set hj)
        simp only [evPlan, ho] at h
        unfold evStep
        rw [ho]
        simp only
        split at h
        · rename_i hw
          rw [if_pos hw]
          split at h
          · rename_i g vs hcall
            split at h
            · rename_i hop
              exact .inr (.inl ⟨g, vs, hcall, openReads_nil hop, hm _ _ _ _ _ (fun v H' => go _ _) h⟩)
            · exact .inr (.inr (.inl ⟨g, vs, hcall, hm _ _ _ _ _ (fun v H' => go _ _) h⟩))
          · rename_i hcall
            split at h
            · rename_i hop
              split at h
              · rename_i v H' hev
                refine .inr (.inr (.inr ⟨hcall, v, H', hev, ?_, go _ _ h⟩))
                rcases hop with hop | hop
                · exact .inl (openReads_nil hop)
                · unfold turnsClear at hop
                  split at hop
                  · rename_i bs hbs; exact .inr ⟨bs, hbs, openReads_all hop⟩
                  · cases hop
              · exact h.elim
            · exact h.elim
        · rename_i hw
          rw [if_neg hw]
          exact go _ _ h

/-! ### Every order, and the real machine -/
theorem evStep_wp (hE : EnvOk E) (hz0 : ZeroOk E) {call : CallK Prop} (hc : CallSound E call) {ops : Array Oper} {n : Nat} (hops : ∀ o ∈ ops.toList, operOk E n o = true) {i : Nat} {log : Log} {st : St} {a : Act} (h : Rel E st.H φ w) (hs : SR E φ st.s a n)
    {K : Log → St → Prop} (hv : evStep E call ops.toList i log st K) {next : Act → World → Prop} {Q : Exit → Act → World → Prop}
    (hn : ∀ log' st' a' φ' w', K log' st' → SR E φ' st'.s a' n → Out E st.H st'.H φ φ' w w' → next a' w') : wpOp E.P ops Q i next a w := by
  unfold evStep at hv
  unfold wpOp
  cases hoi : ops[i]? with
  | none => rw [show ops.toList[i]? = none by simpa using hoi] at hv; exact hv.elim
  | some o =>
    have ho : ops.toList[i]? = some o := by simpa using hoi
    have hmem : o ∈ ops.toList := List.mem_of_getElem? ho
    rw [ho] at hv
    simp only at hv ⊢
    have done : ∀ (log' : Log) (v v' : Value) (H' : AH) (w' : World) (φ' : Rep), K log' ⟨sputO st.s o.dst v, H'⟩ → VR E.M φ' v v' → Out E st.H H' φ φ' w w' → next (a.put o.dst v') w' := fun log' v v' H' w' φ' hk hvr hout =>
      hn log' ⟨sputO st.s o.dst v, H'⟩ _ φ' w' hk ((hs.mono (hout.ext h)).put hvr) hout
    have op : ∀ (v : Value) (H' : AH) (log' : Log), evOp E o.op (sval st.s) st.H = some (v, H') → K log' ⟨sputO st.s o.dst v, H'⟩ → o.wp E.P a w next Q := fun v H' log' hev hk =>
      (evOp_sound hE hz0 h o (fun x hx => sval_sound hs (operOk_operands (hops o hmem) x hx)) hev).wp fun v' w' φ' hvr hout => done _ v v' H' w' φ' hk hvr hout
    rw [wanted_sound hs hops]
    split
    · rename_i hw
      rw [if_pos hw] at hv
      refine .inl ?_
      rcases hv with ⟨_, v, hev, hk⟩ | ⟨g, vs, hcall, _, hk⟩ | ⟨g, vs, hcall, hk⟩ | ⟨_, v, H', hev, _, hk⟩
      · exact op v _ _ hev hk
      · exact call_wp hc h hs (hops o hmem) hcall hk fun v v' H' w' φ' hk hvr hout => done _ v v' H' w' φ' hk hvr hout
      · exact call_wp hc h.lock hs (hops o hmem) hcall hk fun v v' H' w' φ' hk hvr hout => done _ v v' _ w' φ' hk hvr (Out.unlock h hout)
      · exact op v _ _ hev hk
    · rename_i hw
      rw [if_neg hw] at hv
      exact hn _ _ _ φ w hv (hs.put VR.undef) (Out.refl h)

theorem evAny_wp (hE : EnvOk E) (hz0 : ZeroOk E) {call : CallK Prop} (hc : CallSound E call) {ops : Array Oper} {n : Nat} (hops : ∀ o ∈ ops.toList, operOk E n o = true) {k : St → Prop} {Q : Exit → Act → World → Prop} :
    ∀ (fuel : Nat) (listed : Array Bool) (log : Log) (st : St) (a : Act) (φ : Rep) (w : World), Rel E st.H φ w → SR E φ st.s a n → evAny E call ops k fuel listed log st →
      (∀ st' a' φ' w', k st' → SR E φ' st'.s a' n → Out E st.H st'.H φ φ' w w' → Q .normal a' w') → wpAny E.P .any ops Q fuel listed a w
  | 0, listed, log, st, a, φ, w, h, hs, hv, hq => ⟨hv.1, hq st a φ w hv.2 hs (Out.refl h)⟩
  | fuel + 1, listed, log, st, a, φ, w, h, hs, hv, hq => ⟨fun h0 => hq st a φ w (hv.1 h0) hs (Out.refl h), fun i hi =>
      evStep_wp hE hz0 hc hops h hs (hv.2 i hi) fun log' st' a' φ' w' hk hs' hout =>
        evAny_wp hE hz0 hc hops fuel _ log' st' a' φ' w' hout.rel hs' hk fun st'' a'' φ'' w'' hk' hs'' hout' => hq st'' a'' φ'' w'' hk' hs'' (hout.trans hout')⟩

def drawW (w : World) : World := { w with drawn := w.drawn + 1 }

theorem Rel.draw (h : Rel E H φ w) : Rel E H φ (drawW w) where
  obj r o hr := (h.obj r o hr).mono (Ext.refl _) (fun _ _ => rfl)
  inj := h.inj
  below := h.below.trans ⟨rfl, rfl, rfl, Nat.le_refl _, fun _ _ => rfl⟩
  fresh := h.fresh

theorem Out.draw (h : Out E H H' φ φ' (drawW w) w') : Out E H H' φ φ' w w' := ⟨h.dom, h.len, h.rel, h.size, h.frame, h.newblk, h.ownm, h.livem⟩

theorem evRegion_wp (hE : EnvOk E) (hz0 : ZeroOk E) {call : CallK Prop} (hc : CallSound E call) (hm : CallMono call) {id : Nat} {ops : Array Oper} {draw : Bool} {n : Nat} (hops : ∀ o ∈ ops.toList, operOk E n o = true) {st : St} {a : Act} (h : Rel E st.H φ w) (hs : SR E φ st.s a n)
    {k : St → Prop} (hv : evRegion PropAns E call ops.toList draw st k) {Q : Exit → Act → World → Prop}
    (hq : ∀ st' a' φ' w', k st' → SR E φ' st'.s a' n → Out E st.H st'.H φ φ' w w' → Q .normal a' w') : (Code.region id ops draw).wp E.P Q a w := by
  unfold evRegion at hv
  cases draw with
  | false =>
    simp only [Bool.false_eq_true, if_false] at hv
    refine wp_region ?_
    have := evOps_wp hE hz0 hc hops ops.toList 0 st a φ w k (by simp) h hs hv hq
    rw [List.range_eq_range']
    simpa using this
  | true =>
    simp only [if_true] at hv
    split at hv
    · rename_i hok
      refine wp_region_any hE.mixed ?_
      split at hv
      · rename_i htx
        refine evAny_wp hE hz0 hc hops ops.size _ [] st a φ (drawW w) h.draw hs ?_ fun st' a' φ' w' hk hs' hout => hq st' a' φ' w' hk hs' hout.draw
        have := textOk_any hm hok htx (k := k) ops.toList 0 (Array.replicate ops.size false) [] st rfl ⟨by simp, fun i hi => by simp [hi]⟩ (fun x hx => by cases hx) hv
        simpa using this
      refine evAny_wp hE hz0 hc hops ops.size _ [] st a φ (drawW w) h.draw hs ?_ fun st' a' φ' w' hk hs' hout => hq st' a' φ' w' hk hs' hout.draw
      have hlen : ops.toList.length = ops.size := by simp
      rw [hlen] at hv
      refine evPlan_any hm hok ops.size [] _ [] st ⟨by simp, fun j hj => ?_⟩ ?_ hv
      · simp [hj]
      · intro j o ho hj
        have hjl : j < ops.size := (Array.getElem?_eq_some_iff.1 ho).1
        simp [hjl] at hj
    · exact hv.elim

/-! ### More of one, more of the other -/
def CallLe (c c' : CallK Prop) : Prop := ∀ g vs H (k k' : Value → AH → Prop), (∀ v H', k v H' → k' v H') → c g vs H k → c' g vs H k'

theorem evOper_mono {c c' : CallK Prop} (hm : CallLe c c') {o : Oper} {st : St} {k k' : St → Prop} (hk : ∀ st, k st → k' st) (h : evOper PropAns E c o st k) : evOper PropAns E c' o st k' := by
  unfold evOper at h ⊢
  split
  · rename_i f args tys heq
    rw [heq] at h
    simp only at h
    split
    · rename_i g vs hg
      rw [hg] at h
      exact hm _ _ _ _ _ (fun v H' => hk _) h
    · rename_i hg
      rw [hg] at h
      exact h.elim
  · rename_i op hne
    split at h
    · rename_i f args tys heq; exact (hne f args tys heq).elim
    · split
      · rename_i v H' h1; rw [h1] at h; exact hk _ h
      · rename_i h1; rw [h1] at h; exact h.elim

theorem evOps_mono {c c' : CallK Prop} (hm : CallLe c c') {ops : List Oper} {k k' : St → Prop} (hk : ∀ st, k st → k' st) : ∀ (l : List Oper) (st : St), evOps PropAns E c ops l st k → evOps PropAns E c' ops l st k'
  | [], st, h => hk st h
  | o :: rest, st, h => by
    unfold evOps at h ⊢
    split
    · rename_i hw
      rw [if_pos hw] at h
      exact evOper_mono hm (fun st' => evOps_mono hm hk rest st') h
    · rename_i hw
      rw [if_neg hw] at h
      exact evOps_mono hm hk rest _ h

theorem evPlan_mono {c c' : CallK Prop} (hm : CallLe c c') {ops : List Oper} {k k' : St → Prop} (hk : ∀ st, k st → k' st) : ∀ (p : Plan) (log : Log) (st : St), evPlan PropAns E c ops p log st k → evPlan PropAns E c' ops p log st k'
  | .done, log, st, h => hk st h
  | .bad, log, st, h => h
  | .alt p q, log, st, h => by
    simp only [evPlan] at h ⊢
    intro x hx
    simp only [List.mem_cons, List.not_mem_nil, or_false] at hx
    rcases hx with rfl | rfl
    · exact evPlan_mono hm hk p log st (h _ (by simp))
    · exact evPlan_mono hm hk q log st (h _ (by simp))
  | .quiet j p, log, st, h => by
    simp only [evPlan] at h ⊢
    cases ho : ops[j]? with
    | none => rw [ho] at h; exact h
    | some o =>
      rw [ho] at h
      simp only at h ⊢
      split
      · rename_i hw
        rw [if_pos hw] at h
        split at h
        · exact evPlan_mono hm hk p _ _ h
        · exact h.elim
      · rename_i hw
        rw [if_neg hw] at h
        exact evPlan_mono hm hk p _ _ h
  | .loud j p, log, st, h => by
    simp only [evPlan] at h ⊢
    cases ho : ops[j]? with
    | none => rw [ho] at h; exact h
    | some o =>
      rw [ho] at h
      simp only at h ⊢
      split
      · rename_i hw
        rw [if_pos hw] at h
        cases hc : callOf st.s o.op with
        | some gv =>
          obtain ⟨g, vs⟩ := gv
          rw [hc] at h
          simp only at h ⊢
          split
          · rename_i hop
            rw [if_pos hop] at h
            exact hm _ _ _ _ _ (fun v H' => evPlan_mono hm hk p _ _) h
          · rename_i hop
            rw [if_neg hop] at h
            exact hm _ _ _ _ _ (fun v H' => evPlan_mono hm hk p _ _) h
        | none =>
          rw [hc] at h
          simp only at h ⊢
          split
          · rename_i hop
            rw [if_pos hop] at h
            split at h
            · exact evPlan_mono hm hk p _ _ h
            · exact h.elim
          · rename_i hop
            rw [if_neg hop] at h
            exact h
      · rename_i hw
        rw [if_neg hw] at h
        exact evPlan_mono hm hk p _ _ h

theorem evRegion_mono {c c' : CallK Prop} (hm : CallLe c c') {ops : List Oper} {draw : Bool} {st : St} {k k' : St → Prop} (hk : ∀ st, k st → k' st) (h : evRegion PropAns E c ops draw st k) : evRegion PropAns E c' ops draw st k' := by
  unfold evRegion at h ⊢
  cases draw with
  | false => simp only [Bool.false_eq_true, if_false] at h ⊢; exact evOps_mono hm hk _ _ h
  | true =>
    simp only [if_true] at h ⊢
    split
    · rename_i hok
      rw [if_pos hok] at h
      split
      · rename_i htx; rw [if_pos htx] at h; exact evOps_mono hm hk _ _ h
      · rename_i htx; rw [if_neg htx] at h; exact evPlan_mono hm hk _ _ _ h
    · rename_i hok; rw [if_neg hok] at h; exact h

abbrev Rec := Code → St → (Exit → St → Prop) → Prop
def RecLe (r r' : Rec) : Prop := ∀ c st (k k' : Exit → St → Prop), (∀ e st, k e st → k' e st) → r c st k → r' c st k'

theorem retA_mono {rs : List ResultVar} {k k' : Value → AH → Prop} (hk : ∀ v H, k v H → k' v H) : ∀ e st, RetA PropAns E rs k e st → RetA PropAns E rs k' e st := by
  intro e st h
  have key : (match evResults E st.H st.s rs with | some vs => k (oneOrTuple vs) st.H | none => PropAns.bot) → (match evResults E st.H st.s rs with | some vs => k' (oneOrTuple vs) st.H | none => PropAns.bot) := by
    cases evResults E st.H st.s rs with
    | none => exact id
    | some vs => exact hk _ _
  cases e <;> first | exact key h | exact h

theorem evCallWith_mono {r r' : Rec} (hr : RecLe r r') : CallLe (evCallWith PropAns E r) (evCallWith PropAns E r') := by
  intro g vs H k k' hk h
  unfold evCallWith at h ⊢
  cases hx : E.ext g with
  | some ge =>
    rw [hx] at h
    simp only at h ⊢
    cases hg : ge vs H with
    | none => rw [hg] at h; exact h
    | some r => rw [hg] at h; exact hk _ _ h
  | none =>
  rw [hx] at h
  simp only at h ⊢
  cases hf : E.P.funcs[g]? with
  | none => rw [hf] at h; exact h
  | some fn =>
    rw [hf] at h
    simp only at h ⊢
    cases hb : fn.body with
    | none => rw [hb] at h; exact h
    | some c =>
      rw [hb] at h
      simp only at h ⊢
      split
      · rename_i hok
        rw [if_pos hok] at h
        exact hr _ _ _ _ (retA_mono hk) h
      · rename_i hok
        rw [if_neg hok] at h
        exact h

theorem evCode_mono : ∀ (n n' : Nat), n ≤ n' → RecLe (evCode PropAns E n) (evCode PropAns E n')
  | 0, n', _ => fun c st k k' hk h => by simp only [evCode] at h; exact h.elim
  | n + 1, 0, hn => absurd hn (by omega)
  | n + 1, n' + 1, hn => fun c st k k' hk h => by
    have ih := evCode_mono n n' (by omega)
    unfold evCode at h ⊢
    cases c with
    | skip => exact hk _ _ h
    | label l => exact hk _ _ h
    | ret => exact hk _ _ h
    | exit id => exact hk _ _ h
    | region id ops draw => exact evRegion_mono (evCallWith_mono ih) (fun st => hk .normal st) h
    | scope b =>
      refine ih _ _ _ _ (fun e st h => ?_) h
      cases e <;> first | exact hk _ _ h | exact h
    | seq a b =>
      refine ih _ _ _ _ (fun e st h => ?_) h
      cases e with
      | normal => exact ih _ _ _ _ hk h
      | _ => exact hk _ _ h
    | cond c a b =>
      simp only at h ⊢
      split
      · rename_i hc; rw [hc] at h; exact ih _ _ _ _ hk h
      · rename_i hc; rw [hc] at h; exact ih _ _ _ _ hk h
      · rename_i h1 h2
        split at h
        · rename_i hc; exact (h1 hc).elim
        · rename_i hc; exact (h2 hc).elim
        · exact h.elim
    | block id b =>
      refine ih _ _ _ _ (fun e st h => ?_) h
      cases e with
      | exit id' =>
        simp only [Blk] at h ⊢
        split
        · rename_i e; rw [if_pos e] at h; exact hk _ _ h
        · rename_i e; rw [if_neg e] at h; exact hk _ _ h
      | _ => exact hk _ _ h
    | loop b =>
      refine ih _ _ _ _ (fun e st h => ?_) h
      cases e with
      | normal => exact ih _ _ _ _ hk h
      | _ => exact hk _ _ h
    | _ => exact h

theorem evCall_le {n n' : Nat} (h : n ≤ n') : CallLe (evCall PropAns E n) (evCall PropAns E n') := evCallWith_mono (evCode_mono n n' h)

/-! ### Code -/
def Sim (E : Env) (n : Nat) (H : AH) (φ : Rep) (w : World) (k : Exit → St → Prop) : Exit → Act → World → Prop := fun e a' w' => ∃ st' φ', k e st' ∧ SR E φ' st'.s a' n ∧ Out E H st'.H φ φ' w w'

theorem wp_loop_fam {P : Program} {Q : Exit → Act → World → Prop} {a : Act} {w : World} {c : Code} (R : Nat → Act → World → Prop) (n : Nat) (h₀ : R n a w)
    (round : ∀ n a w, R n a w → c.wp P (Exit.then (fun a' w' => ∃ m, m < n ∧ R m a' w') Q) a w) : (Code.loop c).wp P Q a w := by
  intro b k cs
  have key : ∀ n a w, R n a w → ∃ e a' w', Q e a' w' ∧ Arrives P (lone (b.at a (.code c :: .inLoop c :: k)) cs w) b k cs e a' w' := by
    intro n
    induction n using Nat.strongRecOn with
    | _ n ih =>
      intro a w hI
      obtain ⟨e, a₁, w₁, hq, harr⟩ := round n a w hI b (.inLoop c :: k) cs
      cases e with
      | normal =>
        obtain ⟨m, hlt, hI₁⟩ := hq
        obtain ⟨e₂, a₂, w₂, hq₂, harr₂⟩ := ih m hlt a₁ w₁ hI₁
        exact ⟨e₂, a₂, w₂, hq₂, .of_steps (Steps.trans harr (.one step_inLoop)) harr₂⟩
      | exit id => exact ⟨_, a₁, w₁, hq, .pass (x := .inLoop c) rfl (fun _ _ => .inl (by simp)) harr⟩
      | goto l => exact ⟨_, a₁, w₁, hq, .pass (x := .inLoop c) rfl (fun _ _ => .inl (by simp)) harr⟩
      | ret => exact ⟨_, a₁, w₁, hq, .pass (x := .inLoop c) rfl (fun _ _ => .inl (by simp)) harr⟩
      | panic ch => exact ⟨_, a₁, w₁, hq, .pass (x := .inLoop c) rfl (fun _ _ => .inl (by simp)) harr⟩
      | outgrown => exact ⟨_, a₁, w₁, hq, .pass (x := .inLoop c) rfl (fun _ _ => .inl (by simp)) harr⟩
  obtain ⟨e, a', w', hq, harr⟩ := key n a w h₀
  exact ⟨e, a', w', hq, .of_steps (.one step_loop) harr⟩

def resF (tmps : Array Value) : ResultVar → Sem Value
  | .tmp t => pure (tmps.getD t undef)
  | .cell a t => do loadVar t (← asAddr (tmps.getD a undef))

theorem results_eq (fn : Func) (tmps : Array Value) : results fn tmps = (do let vs ← fn.results.mapM (resF tmps); pure (if h : vs.size = 1 then vs[0] else .tuple vs)) := rfl

theorem evResults_sound (hE : EnvOk E) {n : Nat} {st : St} {a : Act} (h : Rel E st.H φ w) (hs : SR E φ st.s a n) : ∀ (rs : List ResultVar) (vs : List Value), (rs.all fun | .tmp t => decide (t < n) | .cell t _ => decide (t < n)) = true → evResults E st.H st.s rs = some vs →
    ∃ vs', (rs.mapM (resF a.tmps)).run E.P w = .ok vs' w ∧ VRs E.M φ vs vs'
  | [], vs, hn, hv => by
    cases hv
    exact ⟨[], by simp, .nil⟩
  | r :: rs, vs, hn, hv => by
    simp only [List.all_cons, Bool.and_eq_true] at hn
    unfold evResults at hv
    cases h1 : evResult E st.H st.s r with
    | none => simp [h1] at hv
    | some v =>
      cases h2 : evResults E st.H st.s rs with
      | none => simp [h1, h2] at hv
      | some us =>
        simp [h1, h2] at hv
        subst hv
        obtain ⟨us', hrun, hvr⟩ := evResults_sound hE h hs rs us hn.2 h2
        rw [List.mapM_cons]
        cases r with
        | tmp t =>
          simp only [evResult, Option.some.injEq] at h1
          subst h1
          refine ⟨a.tmps.getD t undef :: us', ?_, .cons _ _ _ _ (hs.get t (by simpa using hn.1)) hvr⟩
          simp only [resF, Sem.run_bind, Sem.run_pure, Result.andThen_ok, hrun]
        | cell c t =>
          simp only [evResult] at h1
          split at h1
          · rename_i ad had
            have hc := hs.get c (by simpa using hn.1)
            rw [had] at hc
            have : ∃ ad', a.tmps.getD c undef = .pointer (some ad') ∧ AR E.M φ ad ad' := by
              generalize a.tmps.getD c undef = q at hc
              cases hc with
              | ptrOld _ hb => exact ⟨_, rfl, .old _ hb⟩
              | ptrNew r off ri hr => exact ⟨_, rfl, .new r off ri hr⟩
            obtain ⟨ad', had', har⟩ := this
            obtain ⟨v', hl, hvv⟩ := ldVar_sound hE h har h1
            refine ⟨v' :: us', ?_, .cons _ _ _ _ hvv hvr⟩
            have : (resF a.tmps (.cell c t)).run E.P w = .ok v' w := by simp only [resF, had', asAddr, Sem.run_bind, Sem.run_pure, Result.andThen_ok, hl]
            simp only [Sem.run_bind, Sem.run_pure, Result.andThen_ok, this, hrun]
          · cases h1

theorem oneOrTuple_VR {M : Nat} {vs vs' : List Value} (h : VRs M φ vs vs') : VR M φ (oneOrTuple vs) (if h : vs'.toArray.size = 1 then vs'.toArray[0] else .tuple vs'.toArray) := by
  cases h with
  | nil => exact .tuple _ _ .nil
  | cons x y xs ys h hs =>
    cases hs with
    | nil => exact h
    | cons x2 y2 xs2 ys2 h2 hs2 =>
      rw [dif_neg (by simp)]
      exact .tuple _ _ (.cons _ _ _ _ h (.cons _ _ _ _ h2 hs2))

/-- The functions that are not walked do as it is said. -/
def ExtOk (E : Env) : Prop := ∀ f g, E.ext f = some g → ∀ args H v H' φ w args', g args H = some (v, H') → Rel E H φ w → VRs E.M φ args args' →
  (∀ a w, (callFunc f a).run E.P w = .ok (.enter f a) w) ∧ Calls E.P f args'.toArray w fun e w' => ∃ v' φ', e = .returned v' ∧ VR E.M φ' v v' ∧ Out E H H' φ φ' w w'

def CodeSound (E : Env) (m : Nat) : Prop := ∀ (n : Nat) (c : Code) (st : St) (k : Exit → St → Prop) (a : Act) (φ : Rep) (w : World), codeOk E n c = true → evCode PropAns E m c st k → Rel E st.H φ w → SR E φ st.s a n → c.wp E.P (Sim E n st.H φ w k) a w

theorem call_sound (hE : EnvOk E) (hX : ExtOk E) {m : Nat} (ih : CodeSound E m) : CallSound E (evCallWith PropAns E (evCode PropAns E m)) where
  calls f vs H k φ w vs' hv h hvs := by
    unfold evCallWith at hv
    cases hx : E.ext f with
    | some g =>
      rw [hx] at hv
      simp only at hv
      cases hg : g vs H with
      | none => rw [hg] at hv; exact hv.elim
      | some r =>
        rw [hg] at hv
        obtain ⟨v, H'⟩ := r
        refine (hX f g hx vs H v H' φ w vs' hg h hvs).2.mono ?_
        rintro e w' ⟨v', φ', he, hvr, hout⟩
        exact ⟨v, v', H', φ', he, hv, hvr, hout⟩
    | none =>
    rw [hx] at hv
    simp only at hv
    cases hf : E.P.funcs[f]? with
    | none => rw [hf] at hv; exact hv.elim
    | some fn =>
      rw [hf] at hv
      simp only at hv
      cases hb : fn.body with
      | none => rw [hb] at hv; exact hv.elim
      | some c =>
        rw [hb] at hv
        simp only at hv
        split at hv
        · rename_i hok
          obtain ⟨hok, hlen⟩ := hok
          unfold funcOk at hok
          rw [hb] at hok
          simp only [Bool.and_eq_true] at hok
          have hl2 : vs'.length ≤ fn.ntmps := by rw [← hvs.length]; exact hlen
          refine calls_of_wp hf hb ?_
          refine wp_mono (ih fn.ntmps c ⟨vs ++ List.replicate (fn.ntmps - vs.length) undef, H⟩ _ _ φ w hok.1.1 hv h ⟨rfl, by simp; omega, fun i hi => ?_⟩) ?_
          · show VR E.M φ (sget (vs ++ List.replicate (fn.ntmps - vs.length) undef) i) ((vs'.toArray ++ Array.replicate (fn.ntmps - vs'.toArray.size) undef).getD i undef)
            unfold sget
            by_cases hi2 : i < vs.length
            · have h1 : vs[i]? = some vs[i] := by simp [hi2]
              obtain ⟨v', h2, h3⟩ := hvs.get i _ h1
              have hi3 : i < vs'.length := by rw [← hvs.length]; exact hi2
              have h4 : vs'[i] = v' := by simpa [hi3] using h2
              subst h4
              simp [h1, hi3, hi2, Array.getElem?_append, List.getElem?_append]
              exact h3
            · have h1 : vs[i]? = none := by simp; omega
              have hi3 : ¬ i < vs'.length := by rw [← hvs.length]; exact hi2
              have : (vs'.toArray ++ Array.replicate (fn.ntmps - vs'.toArray.size) undef).getD i undef = undef := by
                rw [Array.getD_eq_getD_getElem?, Array.getElem?_append]
                simp [hi3]
                rw [Array.getElem?_replicate]
                split <;> rfl
              rw [this]
              have h5 : (vs ++ List.replicate (fn.ntmps - vs.length) undef).getD i undef = undef := by
                rw [List.getD_eq_getElem?_getD, List.getElem?_append_right (by omega), List.getElem?_replicate]
                split <;> rfl
              rw [h5]
              exact VR.undef
          · rintro e a' w' ⟨st', φ', hk, hs', hout⟩
            have key : (match evResults E st'.H st'.s fn.results.toList with | some vs => k (oneOrTuple vs) st'.H | none => PropAns.bot) → a'.defers = [] ∧ ∃ v, (results fn a'.tmps).run E.P w' = .ok v w' ∧ ∃ v0 v' H' φ'', Ending.returned v = .returned v' ∧ k v0 H' ∧ VR E.M φ'' v0 v' ∧ Out E H H' φ φ'' w w' := by
              intro hk
              split at hk
              · rename_i us hus
                obtain ⟨us', hrun, hvr⟩ := evResults_sound hE hout.rel hs' _ us hok.1.2 hus
                refine ⟨hs'.defers, _, ?_, _, _, _, φ', rfl, hk, oneOrTuple_VR hvr, hout⟩
                rw [results_eq, Array.mapM_eq_mapM_toList]
                simp only [Sem.run_bind, Sem.run_map, hrun, Result.andThen_ok, Sem.run_pure]
              · exact hk.elim
            cases e with
            | normal => exact key hk
            | ret => exact key hk
            | _ => exact (show False from hk).elim
        · exact hv.elim
  enters f vs H k φ w vs' hv h hvs args w1 := by
    unfold evCallWith at hv
    cases hx : E.ext f with
    | some g =>
      rw [hx] at hv
      simp only at hv
      cases hg : g vs H with
      | none => rw [hg] at hv; exact hv.elim
      | some r =>
        rw [hg] at hv
        obtain ⟨v, H'⟩ := r
        exact (hX f g hx vs H v H' φ w vs' hg h hvs).1 args w1
    | none =>
    rw [hx] at hv
    simp only at hv
    cases hf : E.P.funcs[f]? with
    | none => rw [hf] at hv; exact hv.elim
    | some fn =>
      rw [hf] at hv
      simp only at hv
      cases hb : fn.body with
      | none => rw [hb] at hv; exact hv.elim
      | some c =>
        rw [hb] at hv
        simp only at hv
        split at hv
        · rename_i hok
          have hok := hok.1
          unfold funcOk at hok
          simp only [Bool.and_eq_true] at hok
          have hn : ¬ fn.name = "runtime.NumGoroutine" := by simpa using hok.2
          simp [callFunc, hf, hn, hb]
        · exact hv.elim

theorem code_sound (hE : EnvOk E) (hz0 : ZeroOk E) (hX : ExtOk E) : ∀ m, CodeSound E m := by
  intro m
  induction m using Nat.strongRecOn with
  | _ m ih =>
    intro n c st k a φ w hok hv h hs
    cases m with
    | zero => simp only [evCode] at hv; exact hv.elim
    | succ m =>
      have ihm := ih m (by omega)
      have here : ∀ {e : Exit}, k e st → Sim E n st.H φ w k e a w := fun hk => ⟨st, φ, hk, hs, Out.refl h⟩
      cases c with
      | skip => exact wp_skip (here (by simpa [evCode] using hv))
      | label l => exact wp_label (here (by simpa [evCode] using hv))
      | ret => exact wp_ret (here (by simpa [evCode] using hv))
      | exit id => exact wp_exit (here (by simpa [evCode] using hv))
      | region id ops draw =>
        have hops : ∀ o ∈ ops.toList, operOk E n o = true := by
          simp only [codeOk] at hok
          exact List.all_eq_true.1 hok
        simp only [evCode] at hv
        exact evRegion_wp hE hz0 (call_sound hE hX ihm) (evCallWith_mono (evCode_mono m m (Nat.le_refl _))) hops h hs hv fun st' a' φ' w' hk hs' hout => ⟨st', φ', hk, hs', hout⟩
      | scope b =>
        simp only [codeOk] at hok
        simp only [evCode] at hv
        refine wp_scope_straight (wp_mono (ihm n b st _ a φ w hok hv h hs) ?_)
        rintro e a' w' ⟨st', φ', hk, hs', hout⟩
        cases e with
        | goto l => exact (show False from hk).elim
        | _ => exact ⟨st', φ', hk, hs', hout⟩
      | seq x y =>
        simp only [codeOk, Bool.and_eq_true] at hok
        simp only [evCode] at hv
        refine wp_seq (wp_mono (ihm n x st _ a φ w hok.1 hv h hs) ?_)
        rintro e a' w' ⟨st', φ', hk, hs', hout⟩
        cases e with
        | normal =>
          refine wp_mono (ihm n y st' k a' φ' w' hok.2 hk hout.rel hs') ?_
          rintro e a'' w'' ⟨st'', φ'', hk', hs'', hout'⟩
          exact ⟨st'', φ'', hk', hs'', hout.trans hout'⟩
        | _ => exact ⟨st', φ', hk, hs', hout⟩
      | cond c x y =>
        simp only [codeOk, Bool.and_eq_true] at hok
        simp only [evCode] at hv
        have hc := sval_sound hs hok.1.1
        split at hv
        · rename_i hb
          rw [hb] at hc
          refine wp_cond (t := true) (by generalize a.eval c = q at hc; cases hc; rfl) ?_
          exact ihm n x st k a φ w hok.1.2 hv h hs
        · rename_i hb
          rw [hb] at hc
          refine wp_cond (t := false) (by generalize a.eval c = q at hc; cases hc; rfl) ?_
          exact ihm n y st k a φ w hok.2 hv h hs
        · exact hv.elim
      | block id b =>
        simp only [codeOk] at hok
        simp only [evCode] at hv
        refine wp_block (wp_mono (ihm n b st _ a φ w hok hv h hs) ?_)
        rintro e a' w' ⟨st', φ', hk, hs', hout⟩
        cases e with
        | exit id' =>
          simp only [Blk] at hk
          simp only [Exit.inBlock]
          split
          · rename_i e; rw [if_pos e] at hk; exact ⟨st', φ', hk, hs', hout⟩
          · rename_i e; rw [if_neg e] at hk; exact ⟨st', φ', hk, hs', hout⟩
        | _ => exact ⟨st', φ', hk, hs', hout⟩
      | loop b =>
        simp only [codeOk] at hok
        refine wp_loop_fam (fun q a1 w1 => q ≤ m + 1 ∧ ∃ st1 φ1, evCode PropAns E q (.loop b) st1 k ∧ SR E φ1 st1.s a1 n ∧ Out E st.H st1.H φ φ1 w w1) (m + 1) ⟨Nat.le_refl _, st, φ, hv, hs, Out.refl h⟩ ?_
        rintro q a1 w1 ⟨hq, st1, φ1, hv1, hs1, hout1⟩
        cases q with
        | zero => simp only [evCode] at hv1; exact hv1.elim
        | succ q =>
          simp only [evCode] at hv1
          refine wp_mono (ih q (by omega) n b st1 _ a1 φ1 w1 hok hv1 hout1.rel hs1) ?_
          rintro e a' w' ⟨st', φ', hk, hs', hout⟩
          cases e with
          | normal => exact ⟨q, by omega, by omega, st', φ', hk, hs', hout1.trans hout⟩
          | _ => exact ⟨st', φ', hk, hs', hout1.trans hout⟩
      | _ => simp only [evCode] at hv; exact hv.elim

/-- A call of the real machine goes as the abstract one does. -/
theorem evCall_calls (hE : EnvOk E) (hz0 : ZeroOk E) (hX : ExtOk E) {m : Nat} {f : FuncId} {vs vs' : List Value} {k : Value → AH → Prop} (h : evCall PropAns E m f vs [] k) (hvs : VRs E.M (fun _ => none) vs vs') :
    Calls E.P f vs'.toArray E.w0 fun e w' => ∃ v v' H' φ', e = .returned v' ∧ k v H' ∧ VR E.M φ' v v' ∧ Rel E H' φ' w' := by
  have h0 : Rel E [] (fun _ => none) E.w0 := ⟨fun r o hr => by simp at hr, fun r r' o o' _ _ hr => by simp at hr, Below.refl _ _, fun _ _ => rfl⟩
  refine ((call_sound hE hX (code_sound hE hz0 hX m)).calls f vs [] k _ E.w0 vs' h h0 hvs).mono ?_
  rintro e w' ⟨v, v', H', φ', he, hk, hvr, hout⟩
  exact ⟨v, v', H', φ', he, hk, hvr, hout.rel⟩

end Go.Proofs.Ytmjcfcbjccepnaa.Eng
