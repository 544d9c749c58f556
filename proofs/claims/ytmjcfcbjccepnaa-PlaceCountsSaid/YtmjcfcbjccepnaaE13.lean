/-
  What a region that draws its order comes to, continued: every order against the plan's.
-/
import Derived.Test.YtmjcfcbjccepnaaE12
namespace Go.Proofs.Ytmjcfcbjccepnaa.Eng
open Go Go.RowKit
set_option linter.unusedSimpArgs false
set_option linter.unusedVariables false
set_option linter.unusedSectionVars false

variable {E : Env} {H H' H2 : AH} {φ φ' φ'' : Rep} {w w' w'' : World}

/-! ### Names -/
theorem sput_comm (s : List Value) {i j : Nat} (h : i ≠ j) (v u : Value) : sput (sput s i v) j u = sput (sput s j u) i v := by
  have len : ∀ (s : List Value) i v, (sput s i v).length = max s.length (i + 1) := by
    intro s i v; unfold sput; split
    · rw [List.length_set]; omega
    · simp; omega
  apply List.ext_getElem?
  intro q
  have hg : ∀ (a b : List Value), a.length = b.length → (∀ q : Nat, sget a q = sget b q) → ∀ q : Nat, a[q]? = b[q]? := by
    intro a b hl hs q
    by_cases hq : q < a.length
    · have := hs q
      unfold sget at this
      rw [List.getD_eq_getElem?_getD, List.getD_eq_getElem?_getD, List.getElem?_eq_getElem hq, List.getElem?_eq_getElem (by omega)] at this
      rw [List.getElem?_eq_getElem hq, List.getElem?_eq_getElem (by omega)]
      simpa using this
    · rw [List.getElem?_eq_none (by omega), List.getElem?_eq_none (by omega)]
  refine hg _ _ (by rw [len, len, len, len]; omega) (fun q => ?_) q
  rw [sget_sput, sget_sput, sget_sput, sget_sput]
  by_cases h1 : i = q
  · rw [if_pos h1, if_pos h1, if_neg (by omega)]
  · rw [if_neg h1, if_neg h1]

theorem sputO_comm (s : List Value) {i j : Option Nat} (h : ∀ d, i = some d → j ≠ some d) (v u : Value) : sputO (sputO s i v) j u = sputO (sputO s j u) i v := by
  cases i with
  | none => rfl
  | some i =>
    cases j with
    | none => rfl
    | some j => exact sput_comm s (fun e => h i rfl (by rw [e])) v u

theorem sget_sputO (s : List Value) {d : Option Nat} {j : Nat} (h : d ≠ some j) (v : Value) : sget (sputO s d v) j = sget s j := by
  cases d with
  | none => rfl
  | some d => show sget (sput s d v) j = _; rw [sget_sput, if_neg]; exact fun e => h (by rw [e])

theorem sval_sputO {s : List Value} {d : Option Nat} {x : Operand} (h : ∀ t, x = .tmp t → d ≠ some t) (v : Value) : sval (sputO s d v) x = sval s x := by
  cases x with
  | tmp t => exact sget_sputO s (h t rfl) v
  | const => rfl
  | global => rfl
  | func => rfl

/-- Neither names what the other writes. -/
structure Apart (ops : List Oper) (o o' : Oper) : Prop where
  left : ∀ d, o.dst = some d → d ∉ namesOf o' ++ guardSlot ops o'
  right : ∀ d, o'.dst = some d → d ∉ namesOf o ++ guardSlot ops o

theorem Apart.symm {ops : List Oper} {o o' : Oper} (h : Apart ops o o') : Apart ops o' o := ⟨h.right, h.left⟩
theorem Apart.dst {ops : List Oper} {o o' : Oper} (h : Apart ops o o') : ∀ d, o.dst = some d → o'.dst ≠ some d := fun d hd hd' => h.left d hd (by simp [namesOf, hd'])
theorem Apart.opnd {ops : List Oper} {o o' : Oper} (h : Apart ops o o') {s : List Value} {v : Value} : ∀ x ∈ o'.op.operands.toList, sval (sputO s o.dst v) x = sval s x := fun x hx =>
  sval_sputO (fun t ht hd => h.left t hd (by
    subst ht
    refine List.mem_append_left _ (List.mem_append_right _ ?_)
    exact List.mem_filterMap.2 ⟨_, hx, rfl⟩)) v
theorem Apart.wanted {ops : List Oper} {o o' : Oper} (h : Apart ops o o') {s : List Value} {v : Value} : wantedA ops o' (sputO s o.dst v) = wantedA ops o' s := by
  unfold wantedA
  cases hg : o'.guard with
  | none => rfl
  | some g =>
    obtain ⟨j, want⟩ := g
    simp only
    cases hd : (ops[j]?).bind fun x => x.dst with
    | none => rfl
    | some d =>
      have : o.dst ≠ some d := fun e => h.left d e (List.mem_append_right _ (by simp [guardSlot, hg, hd]))
      simp only [sget_sputO s this v]

/-! ### Like operands, like values -/
theorem evOp_congr {o : Op} {ρ ρ' : Operand → Value} (h : ∀ x ∈ o.operands.toList, ρ x = ρ' x) : evOp E o ρ H = evOp E o ρ' H := by
  have lst : ∀ (ps : Array (Nat × Operand)), (∀ x ∈ (ps.toList.map (·.2)).toArray.toList, ρ x = ρ' x) → ps.toList.map (fun p => (p.1, ρ p.2)) = ps.toList.map (fun p => (p.1, ρ' p.2)) := by
    intro ps hps
    refine List.map_congr_left fun p hp => ?_
    rw [hps p.2 (by simpa using ⟨p.1, by simpa using hp⟩)]
  have arr : ∀ (a : Array Operand), (∀ x ∈ a.toList, ρ x = ρ' x) → a.toList.map ρ = a.toList.map ρ' := fun a ha => List.map_congr_left ha
  have arr' : ∀ (a : Array Operand), (∀ x ∈ a.toList, ρ x = ρ' x) → a.map ρ = a.map ρ' := fun a ha => Array.ext' (by simpa using List.map_congr_left ha)
  have opt : ∀ (a : Option Operand), (∀ x ∈ a.toArray.toList, ρ x = ρ' x) → a.map ρ = a.map ρ' := by
    intro a ha
    cases a with
    | none => rfl
    | some x => simp [ha x (by simp)]
  cases o with
  | build t ps => simp only [evOp]; rw [lst ps h]
  | buildSlice t n ps => simp only [evOp]; rw [lst ps h]
  | makeFunc f a b =>
    simp only [evOp]
    simp only [Op.operands, Array.toList_append, List.mem_append] at h
    rw [arr' a fun x hx => h x (.inl hx), arr' b fun x hx => h x (.inr hx)]
  | slice t x l hh m =>
    simp only [evOp]
    simp only [Op.operands, Array.toList_append, List.mem_append] at h
    rw [h x (by simp), opt l fun x hx => h x (.inl (.inl (.inr hx))), opt hh fun x hx => h x (.inl (.inr hx)), opt m fun x hx => h x (.inr hx)]
  | makeMap t r => cases r <;> rfl
  | call c =>
    obtain ⟨f, args, tys⟩ := c
    cases f with
    | builtin b =>
      simp only [evOp]
      rw [arr args fun x hx => h x (by simpa [Op.operands, Call.operands] using hx)]
    | _ => rfl
  | move x => simp only [evOp]; rw [h x (by simp [Op.operands])]
  | assign x => simp only [evOp]; rw [h x (by simp [Op.operands])]
  | pick c a b => simp only [evOp]; rw [h c (by simp [Op.operands]), h a (by simp [Op.operands]), h b (by simp [Op.operands])]
  | box e x => simp only [evOp]; rw [h x (by simp [Op.operands])]
  | load t a => simp only [evOp]; rw [h a (by simp [Op.operands])]
  | store t a x => simp only [evOp]; rw [h a (by simp [Op.operands]), h x (by simp [Op.operands])]
  | nilCheck x => simp only [evOp]; rw [h x (by simp [Op.operands])]
  | binOp op t x y z => simp only [evOp]; rw [h x (by simp [Op.operands]), h y (by simp [Op.operands])]
  | unOp op t x => simp only [evOp]; rw [h x (by simp [Op.operands])]
  | convert s d x => simp only [evOp]; rw [h x (by simp [Op.operands])]
  | makeInterface t x => simp only [evOp]; rw [h x (by simp [Op.operands])]
  | makeSlice t l c => simp only [evOp]; rw [h l (by simp [Op.operands]), h c (by simp [Op.operands])]
  | fieldAddr t x f => simp only [evOp]; rw [h x (by simp [Op.operands])]
  | field t x f => simp only [evOp]; rw [h x (by simp [Op.operands])]
  | indexAddr t x i => simp only [evOp]; rw [h x (by simp [Op.operands]), h i (by simp [Op.operands])]
  | index t x i => simp only [evOp]; rw [h x (by simp [Op.operands]), h i (by simp [Op.operands])]
  | lookup t x i ok => simp only [evOp]; rw [h x (by simp [Op.operands]), h i (by simp [Op.operands])]
  | mapUpdate t m k x => simp only [evOp]; rw [h m (by simp [Op.operands]), h k (by simp [Op.operands]), h x (by simp [Op.operands])]
  | insert t m k x => simp only [evOp]; rw [h m (by simp [Op.operands]), h k (by simp [Op.operands]), h x (by simp [Op.operands])]
  | typeAssert x a t ok => simp only [evOp]; rw [h x (by simp [Op.operands])]
  | extract x i => simp only [evOp]; rw [h x (by simp [Op.operands])]
  | _ => rfl

theorem readsOf_congr {o : Op} {ρ ρ' : Operand → Value} (h : ∀ x ∈ o.operands.toList, ρ x = ρ' x) : readsOf o ρ = readsOf o ρ' := by
  unfold readsOf
  split
  · rename_i t a; rw [h a (by simp [Op.operands])]
  · rename_i t x i ok; rw [h x (by simp [Op.operands])]
  · rename_i t x l hh m; rw [h x (by simp [Op.operands])]
  · rename_i args tys
    have : ∀ x ∈ args.toList, ρ x = ρ' x := fun x hx => h x (by simpa [Op.operands, Call.operands] using hx)
    generalize args.toList = l at this
    induction l with
    | nil => rfl
    | cons a l ih =>
      have ih := ih fun x hx => this x (by simp [hx])
      simp only [List.filterMap_cons, this a (by simp), ih]
  · rfl

theorem turnsOf_congr {o : Op} {ρ ρ' : Operand → Value} (h : ∀ x ∈ o.operands.toList, ρ x = ρ' x) : turnsOf o ρ = turnsOf o ρ' := by
  unfold turnsOf
  split
  all_goals first | rfl | skip
  rename_i args tys
  rw [List.map_congr_left (l := args.toList) fun x hx => h x (by simpa [Op.operands, Call.operands] using hx)]

theorem callOf_congr {s s' : List Value} {o : Op} (h : ∀ x ∈ o.operands.toList, sval s x = sval s' x) : callOf s o = callOf s' o := by
  unfold callOf
  split
  · rename_i f args tys
    rw [callOf_operands] at h
    rw [h f (by simp), List.map_congr_left (l := args.toList) fun x hx => h x (by simp [hx])]
  · rfl

theorem quiet_no_call {s : List Value} {o : Op} (h : isQuiet o = true) : callOf s o = none := by
  unfold callOf
  split
  · simp [isQuiet] at h
  · rfl

/-! ### Every order -/
/-- What was read and may still be read behind operation i. -/
def FreeOf (ops : List Oper) (log : Log) (i : Nat) (bs : Option (List Nat)) : Prop := ∀ x ∈ log, before ops x.1 i = false → ∀ b ∈ x.2, match bs with | none => False | some l => b ∉ l

def evStep (E : Env) (call : CallK Prop) (ops : List Oper) (i : Nat) (log : Log) (st : St) (K : Log → St → Prop) : Prop :=
  match ops[i]? with
  | none => False
  | some o =>
    if wantedA ops o st.s then
      (isQuiet o.op = true ∧ ∃ v, evOp E o.op (sval st.s) st.H = some (v, st.H) ∧ K ((i, readsOf o.op (sval st.s)) :: log) ⟨sputO st.s o.dst v, st.H⟩)
      ∨ (∃ g vs, callOf st.s o.op = some (g, vs) ∧ FreeOf ops log i none ∧ call g vs st.H fun v H' => K log ⟨sputO st.s o.dst v, H'⟩)
      ∨ (∃ g vs, callOf st.s o.op = some (g, vs) ∧ call g vs (lock st.H) fun v H' => K log ⟨sputO st.s o.dst v, st.H ++ H'.drop st.H.length⟩)
      ∨ (callOf st.s o.op = none ∧ ∃ v H', evOp E o.op (sval st.s) st.H = some (v, H') ∧ (FreeOf ops log i none ∨ ∃ l, turnsOf o.op (sval st.s) = some l ∧ FreeOf ops log i (some l)) ∧ K log ⟨sputO st.s o.dst v, H'⟩)
    else K log ⟨sputO st.s o.dst undef, st.H⟩

def evAny (E : Env) (call : CallK Prop) (ops : Array Oper) (k : St → Prop) : Nat → Array Bool → Log → St → Prop
  | 0, listed, _, st => Region.ready .any ops listed = [] ∧ k st
  | fuel + 1, listed, log, st => (Region.ready .any ops listed = [] → k st) ∧ ∀ i ∈ Region.ready .any ops listed, evStep E call ops.toList i log st (evAny E call ops k fuel (listed.setIfInBounds i true))

def CallMono (call : CallK Prop) : Prop := ∀ g vs H (k k' : Value → AH → Prop), (∀ v H', k v H' → k' v H') → call g vs H k → call g vs H k'

def LogLe (l l' : Log) : Prop := ∀ x ∈ l, x.2 = [] ∨ x ∈ l'
theorem LogLe.refl (l : Log) : LogLe l l := fun _ h => .inr h
theorem LogLe.cons {l l' : Log} (h : LogLe l l') (x : Nat × List Nat) : LogLe (x :: l) (x :: l') := by
  intro y hy
  rcases List.mem_cons.1 hy with rfl | hy
  · exact .inr (by simp)
  · exact (h y hy).imp id fun h => List.mem_cons_of_mem _ h
theorem FreeOf.le {ops : List Oper} {l l' : Log} (h : LogLe l l') {i : Nat} {bs : Option (List Nat)} (hf : FreeOf ops l' i bs) : FreeOf ops l i bs := fun x hx hb b hb2 => by
  rcases h x hx with h1 | h1
  · rw [h1] at hb2; cases hb2
  · exact hf x h1 hb b hb2

theorem evStep_mono {call : CallK Prop} (hm : CallMono call) {ops : List Oper} {i : Nat} {log log' : Log} (hl : LogLe log' log) {st : St} {K K' : Log → St → Prop} (hK : ∀ l l' st, LogLe l' l → K l st → K' l' st) (h : evStep E call ops i log st K) : evStep E call ops i log' st K' := by
  unfold evStep at h ⊢
  split
  · rename_i hn; rw [hn] at h; exact h
  · rename_i o ho
    rw [ho] at h
    simp only at h
    split
    · rename_i hw
      rw [if_pos hw] at h
      rcases h with ⟨hq, v, hv, hk⟩ | ⟨g, vs, hc, hf, hk⟩ | ⟨g, vs, hc, hk⟩ | ⟨hc, v, H', hv, hf, hk⟩
      · exact .inl ⟨hq, v, hv, hK _ _ _ (hl.cons _) hk⟩
      · exact .inr (.inl ⟨g, vs, hc, hf.le hl, hm _ _ _ _ _ (fun v H' => hK _ _ _ hl) hk⟩)
      · exact .inr (.inr (.inl ⟨g, vs, hc, hm _ _ _ _ _ (fun v H' => hK _ _ _ hl) hk⟩))
      · exact .inr (.inr (.inr ⟨hc, v, H', hv, hf.imp (fun h => h.le hl) (fun ⟨l, h1, h2⟩ => ⟨l, h1, h2.le hl⟩), hK _ _ _ hl hk⟩))
    · rename_i hw
      rw [if_neg hw] at h
      exact hK _ _ _ hl h

theorem evAny_log {call : CallK Prop} (hm : CallMono call) {ops : Array Oper} {k : St → Prop} : ∀ (fuel : Nat) (listed : Array Bool) (log log' : Log) (st : St), LogLe log' log → evAny E call ops k fuel listed log st → evAny E call ops k fuel listed log' st
  | 0, _, _, _, _, _, h => h
  | fuel + 1, listed, log, log', st, hl, h => ⟨h.1, fun i hi => evStep_mono hm hl (fun l l' st hl' => evAny_log hm fuel _ l l' st hl') (h.2 i hi)⟩

/-- A quiet operation's step. -/
def QStep (E : Env) (ops : List Oper) (i : Nat) (st : St) (x : Nat × List Nat) (st' : St) : Prop :=
  ∃ o, ops[i]? = some o ∧ isQuiet o.op = true ∧
    if wantedA ops o st.s then ∃ v, evOp E o.op (sval st.s) st.H = some (v, st.H) ∧ x = (i, readsOf o.op (sval st.s)) ∧ st' = ⟨sputO st.s o.dst v, st.H⟩
    else x = (i, []) ∧ st' = ⟨sputO st.s o.dst undef, st.H⟩

theorem QStep.step {call : CallK Prop} {ops : List Oper} {i : Nat} {st st' : St} {x : Nat × List Nat} (h : QStep E ops i st x st') {log : Log} {K : Log → St → Prop} (hK : K (x :: log) st') (hm : ∀ l l' st, LogLe l' l → K l st → K l' st) : evStep E call ops i log st K := by
  obtain ⟨o, ho, hq, h⟩ := h
  unfold evStep
  rw [ho]
  simp only
  split
  · rename_i hw
    rw [if_pos hw] at h
    obtain ⟨v, hv, rfl, rfl⟩ := h
    exact .inl ⟨hq, v, hv, hK⟩
  · rename_i hw
    rw [if_neg hw] at h
    obtain ⟨rfl, rfl⟩ := h
    exact hm _ _ _ (fun y hy => .inr (List.mem_cons_of_mem _ hy)) hK

/-- Another operation's step ahead of a quiet one. -/
theorem evStep_ahead {call : CallK Prop} (hm : CallMono call) {ops : List Oper} {i j : Nat} {st sti : St} {x : Nat × List Nat} {log : Log} {oi oj : Oper} (hi : ops[i]? = some oi) (hj : ops[j]? = some oj) (ha : Apart ops oi oj) (hb : before ops i j = false)
    (hq : QStep E ops i st x sti) {K K' : Log → St → Prop} (h : evStep E call ops j (x :: log) sti K)
    (hK : ∀ l1 st1 l2 st2, K l1 st1 → QStep E ops i st2 x st1 → LogLe (x :: l2) l1 → K' l2 st2) : evStep E call ops j log st K' := by
  obtain ⟨o, ho, hqi, hq⟩ := hq
  rw [hi] at ho
  cases ho
  -- what i did
  obtain ⟨vi, rfl, hvi⟩ : ∃ vi, sti = ⟨sputO st.s oi.dst vi, st.H⟩ ∧ ∀ (u : Value) (H' : AH), Agree E.M st.H H' x.2 → QStep E ops i ⟨sputO st.s oj.dst u, H'⟩ x ⟨sputO (sputO st.s oi.dst vi) oj.dst u, H'⟩ := by
    have hw : ∀ u, wantedA ops oi (sputO st.s oj.dst u) = wantedA ops oi st.s := fun u => ha.symm.wanted
    split at hq
    · rename_i hwi
      obtain ⟨v, hv, hx, hs⟩ := hq
      refine ⟨v, hs, fun u H' hag => ⟨oi, hi, hqi, ?_⟩⟩
      simp only
      rw [if_pos (by rw [hw]; exact hwi)]
      have hc := fun (u : Value) => ha.symm.opnd (s := st.s) (v := u)
      rw [hx] at hag
      refine ⟨v, ?_, ?_, ?_⟩
      · rw [evOp_congr (hc u)]; exact quiet_agree hqi hag hv
      · rw [readsOf_congr (hc u)]; exact hx
      · rw [sputO_comm st.s ha.dst]
    · rename_i hwi
      obtain ⟨hx, hs⟩ := hq
      refine ⟨undef, hs, fun u H' hag => ⟨oi, hi, hqi, ?_⟩⟩
      simp only
      rw [if_neg (by rw [hw]; exact hwi)]
      exact ⟨hx, by rw [sputO_comm st.s ha.dst]⟩
  have hagree : Agree E.M st.H st.H x.2 := fun _ _ _ => rfl
  have hxi : x.1 = i := by
    split at hq
    · obtain ⟨_, _, rfl, _⟩ := hq; rfl
    · obtain ⟨rfl, _⟩ := hq; rfl
  have hfree : ∀ {bs : Option (List Nat)}, FreeOf ops (x :: log) j bs → FreeOf ops log j bs := fun h => h.le fun y hy => .inr (List.mem_cons_of_mem _ hy)
  have hnil : FreeOf ops (x :: log) j none → x.2 = [] := by
    intro h
    cases h2 : x.2 with
    | nil => rfl
    | cons b r => exact (h x (by simp) (by rw [hxi]; exact hb) b (by simp [h2])).elim
  have hcj : ∀ y ∈ oj.op.operands.toList, sval (sputO st.s oi.dst vi) y = sval st.s y := ha.opnd
  unfold evStep at h ⊢
  rw [hj] at h ⊢
  simp only at h ⊢
  rw [ha.wanted] at h
  split
  · rename_i hw
    rw [if_pos hw] at h
    rw [callOf_congr hcj, evOp_congr hcj, readsOf_congr hcj, turnsOf_congr hcj] at h
    rcases h with ⟨hqj, v, hv, hk⟩ | ⟨g, vs, hc, hf, hk⟩ | ⟨g, vs, hc, hk⟩ | ⟨hc, v, H', hv, hf, hk⟩
    · refine .inl ⟨hqj, v, hv, hK _ _ _ _ hk (hvi v _ hagree) ?_⟩
      intro y hy
      simp only [List.mem_cons] at hy ⊢
      rcases hy with h1 | h1 | h1 <;> simp [h1]
    · refine .inr (.inl ⟨g, vs, hc, hfree hf, hm _ _ _ _ _ (fun v H' hk => hK _ _ _ _ hk (hvi v H' ?_) (LogLe.refl _)) hk⟩)
      rw [hnil hf]; intro r _ hr; cases hr
    · refine .inr (.inr (.inl ⟨g, vs, hc, hm _ _ _ _ _ (fun v H' hk => hK _ _ _ _ hk (hvi v _ ?_) (LogLe.refl _)) hk⟩))
      intro r hr _
      exact List.getElem?_append_left hr
    · refine .inr (.inr (.inr ⟨hc, v, H', hv, hf.imp hfree (fun ⟨l, h1, h2⟩ => ⟨l, h1, hfree h2⟩), hK _ _ _ _ hk (hvi v H' ?_) (LogLe.refl _)⟩))
      rcases hf with hf | ⟨l, h1, h2⟩
      · rw [hnil hf]; intro r _ hr; cases hr
      · intro r hr hrx
        refine (turns_agree h1 hv).2 r hr ?_
        exact h2 x (by simp) (by rw [hxi]; exact hb) _ hrx
  · rename_i hw
    rw [if_neg hw] at h
    exact hK _ _ _ _ h (hvi undef _ hagree) (LogLe.refl _)

/-! ### What stands in line -/
/-- Behind each that is done, all it waits for is done. -/
def Closed (ops : Array Oper) (listed : Array Bool) : Prop := ∀ j o, ops[j]? = some o → listed.getD j false = true → ∀ i ∈ bindsOf o, listed.getD i false = true

theorem mem_bindsOf {o : Oper} {i : Nat} : i ∈ bindsOf o ↔ ∃ e ∈ o.after, Region.binds .any e = true ∧ e.on = i := by
  simp [bindsOf, and_assoc]

theorem ready_binds {ops : Array Oper} {listed : Array Bool} {j : Nat} {o : Oper} (hj : j ∈ Region.ready .any ops listed) (ho : ops[j]? = some o) : ∀ i ∈ bindsOf o, listed.getD i false = true := by
  obtain ⟨_, o', ho', hall⟩ := mem_ready.1 hj
  rw [ho] at ho'; cases ho'
  intro i hi
  obtain ⟨e, he, hb, rfl⟩ := mem_bindsOf.1 hi
  exact hall e he hb

theorem getD_set {listed : Array Bool} {i j : Nat} (h : (listed.setIfInBounds i true).getD j false = true) : j = i ∨ listed.getD j false = true := by
  by_cases e : i = j
  · exact .inl e.symm
  · rw [getD_set_ne false e] at h; exact .inr h

theorem Closed.set {ops : Array Oper} {listed : Array Bool} (h : Closed ops listed) {i : Nat} (hi : i ∈ Region.ready .any ops listed) : Closed ops (listed.setIfInBounds i true) := by
  intro j o ho hj q hq
  rcases getD_set hj with rfl | hj
  · exact getD_set_true (ready_binds hi ho q hq)
  · exact getD_set_true (h j o ho hj q hq)

theorem mask_bit {acc : List Nat} {i : Nat} : ∀ {l : List Nat} {m : Nat}, (l.foldl (fun m i => (m ||| (1 <<< i)) ||| acc.getD i 0) m).testBit i = true → m.testBit i = true ∨ ∃ q ∈ l, q = i ∨ (acc.getD q 0).testBit i = true
  | [], m, h => .inl h
  | q :: l, m, h => by
    simp only [List.foldl_cons] at h
    rcases mask_bit h with h | ⟨q', h1, h2⟩
    · rw [Nat.testBit_or, Nat.testBit_or, Bool.or_eq_true, Bool.or_eq_true] at h
      rcases h with (h | h) | h
      · exact .inl h
      · refine .inr ⟨q, by simp, .inl ?_⟩
        rw [Nat.testBit_shiftLeft] at h
        simp only [Bool.and_eq_true, decide_eq_true_eq] at h
        have h2 : i - q = 0 := by
          cases hd : i - q with
          | zero => rfl
          | succ d => have := h.2; rw [hd] at this; simp [Nat.testBit, Nat.shiftRight_succ_inside] at this
        omega
      · exact .inr ⟨q, by simp, .inr h⟩
    · exact .inr ⟨q', by simp [h1], h2⟩

theorem clsGo_get : ∀ (r : List Oper) (acc : List Nat) (j : Nat), (j < acc.length → (clsGo r acc).getD j 0 = acc.getD j 0) ∧
    (acc.length ≤ j → ((∃ o acc', r[j - acc.length]? = some o ∧ (clsGo r acc).getD j 0 = maskOf acc' (bindsOf o) ∧ acc'.length = j ∧ ∀ q, q < j → acc'.getD q 0 = (clsGo r acc).getD q 0) ∨ (clsGo r acc).getD j 0 = 0))
  | [], acc, j => ⟨fun _ => rfl, fun h => .inr (by simp [clsGo, List.getD_eq_getElem?_getD, List.getElem?_eq_none h])⟩
  | o :: r, acc, j => by
    have ih := clsGo_get r (acc ++ [maskOf acc (bindsOf o)])
    have old : ∀ q, q < acc.length → (clsGo (o :: r) acc).getD q 0 = acc.getD q 0 := by
      intro q hq
      have := (ih q).1 (by simp; omega)
      show (clsGo r _).getD q 0 = _
      rw [this]
      simp [List.getD_eq_getElem?_getD, List.getElem?_append_left hq]
    refine ⟨old j, fun h => ?_⟩
    by_cases e : j = acc.length
    · refine .inl ⟨o, acc, by simp [e], ?_, e.symm, fun q hq => (old q (by omega)).symm⟩
      have := (ih j).1 (by simp; omega)
      show (clsGo r _).getD j 0 = _
      rw [this, e]
      simp [List.getD_eq_getElem?_getD]
    · have h2 := (ih j).2 (by simp; omega)
      rcases h2 with ⟨o', acc', h3, h4, h5, h6⟩ | h2
      · refine .inl ⟨o', acc', ?_, h4, h5, h6⟩
        have : j - acc.length = (j - (acc ++ [maskOf acc (bindsOf o)]).length) + 1 := by simp; omega
        rw [this, List.getElem?_cons_succ]
        exact h3
      · exact .inr h2

theorem before_listed {ops : Array Oper} {listed : Array Bool} (h : Closed ops listed) {i : Nat} : ∀ (j : Nat) (o : Oper), ops[j]? = some o → (∀ i ∈ bindsOf o, listed.getD i false = true) → before ops.toList i j = true → listed.getD i false = true := by
  intro j
  induction j using Nat.strongRecOn with
  | _ j ih =>
    intro o ho hb hbit
    unfold before cls at hbit
    have hg := (clsGo_get ops.toList [] j).2 (Nat.zero_le _)
    rcases hg with ⟨o', acc', h1, h2, h3, h4⟩ | h0
    · have : o' = o := by
        have h5 : ops.toList[j]? = some o := by simpa using ho
        rw [List.length_nil, Nat.sub_zero, h5] at h1
        exact (Option.some.inj h1).symm
      subst this
      rw [h2] at hbit
      rcases mask_bit hbit with hz | ⟨q, hq, rfl | hq2⟩
      · simp at hz
      · exact hb _ hq
      · by_cases hlt : q < j
        · rw [h4 q hlt] at hq2
          have hqs : q < ops.size := by have := (Array.getElem?_eq_some_iff.1 ho).1; omega
          have hoq : ops[q]? = some ops[q] := by simp [hqs]
          exact ih q hlt ops[q] hoq (h q ops[q] hoq (hb q hq)) hq2
        · rw [List.getD_eq_getElem?_getD, List.getElem?_eq_none (by omega)] at hq2
          simp at hq2
    · rw [h0] at hbit; simp at hbit

theorem not_before {ops : Array Oper} {listed : Array Bool} (h : Closed ops listed) {i j : Nat} (hi : i ∈ Region.ready .any ops listed) (hj : j ∈ Region.ready .any ops listed) : before ops.toList i j = false := by
  obtain ⟨hi0, oi, hoi, _⟩ := mem_ready.1 hi
  obtain ⟨_, oj, hoj, _⟩ := mem_ready.1 hj
  cases hb : before ops.toList i j with
  | false => rfl
  | true =>
    have := before_listed h j oj hoj (ready_binds hj hoj) hb
    rcases Nat.lt_or_ge i listed.size with h' | h'
    · simp [h'] at hi0 this; rw [hi0] at this; cases this
    · simp [Array.getElem?_eq_none h'] at this

theorem regionOk_apart {ops : List Oper} (h : regionOk ops = true) {i j : Nat} {oi oj : Oper} (hi : ops[i]? = some oi) (hj : ops[j]? = some oj) (hij : i < j) (hb : before ops i j = false) : Apart ops oi oj := by
  unfold regionOk at h
  have hjl : j < ops.length := (List.getElem?_eq_some_iff.1 hj).1
  have h1 := List.all_eq_true.1 h j (List.mem_range.2 hjl)
  rw [hj] at h1
  simp only [Bool.and_eq_true] at h1
  have h2 := List.all_eq_true.1 h1.2 i (List.mem_range.2 hij)
  rw [hi] at h2
  simp only [hb, Bool.or_false, Bool.not_eq_true', Bool.or_eq_false_iff] at h2
  refine ⟨fun d hd => ?_, fun d hd => ?_⟩
  · have := h2.1; rw [hd] at this; simp only at this
    intro hm; rw [List.contains_iff_mem.2 hm] at this; cases this
  · have := h2.2; rw [hd] at this; simp only at this
    intro hm; rw [List.contains_iff_mem.2 hm] at this; cases this

theorem ready_apart {ops : Array Oper} {listed : Array Bool} (hok : regionOk ops.toList = true) (h : Closed ops listed) {i j : Nat} (hi : i ∈ Region.ready .any ops listed) (hj : j ∈ Region.ready .any ops listed) (hne : j ≠ i) {oi oj : Oper} (hoi : ops[i]? = some oi) (hoj : ops[j]? = some oj) : Apart ops.toList oi oj := by
  rcases Nat.lt_or_gt_of_ne hne with h1 | h1
  · exact (regionOk_apart hok (by simpa using hoj) (by simpa using hoi) h1 (not_before h hj hi)).symm
  · exact regionOk_apart hok (by simpa using hoi) (by simpa using hoj) h1 (not_before h hi hj)

/-- A quiet operation that is ready may go first. -/
theorem evAny_first {call : CallK Prop} (hm : CallMono call) {ops : Array Oper} (hok : regionOk ops.toList = true) {k : St → Prop} {i : Nat} : ∀ (fuel : Nat) (listed : Array Bool) (log : Log) (st st' : St) (x : Nat × List Nat), Closed ops listed → i ∈ Region.ready .any ops listed →
    QStep E ops.toList i st x st' → evAny E call ops k fuel (listed.setIfInBounds i true) (x :: log) st' → evAny E call ops k (fuel + 1) listed log st := by
  intro fuel
  induction fuel with
  | zero =>
    intro listed log st st' x hc hi hq h
    refine ⟨fun h0 => (by rw [h0] at hi; cases hi), fun j hj => ?_⟩
    by_cases hji : j = i
    · subst hji; exact hq.step h fun l l' st hl => evAny_log hm _ _ l l' st hl
    · have := ready_mono hj hji
      rw [h.1] at this
      cases this
  | succ fuel ih =>
    intro listed log st st' x hc hi hq h
    refine ⟨fun h0 => (by rw [h0] at hi; cases hi), fun j hj => ?_⟩
    by_cases hji : j = i
    · subst hji; exact hq.step h fun l l' st hl => evAny_log hm _ _ l l' st hl
    · obtain ⟨_, oi, hoi, _⟩ := mem_ready.1 hi
      obtain ⟨_, oj, hoj, _⟩ := mem_ready.1 hj
      refine evStep_ahead hm (by simpa using hoi) (by simpa using hoj) (ready_apart hok hc hi hj hji hoi hoj) (not_before hc hi hj) hq (h.2 j (ready_mono hj hji)) ?_
      intro l1 st1 l2 st2 hk hq2 hl
      refine ih _ l2 st2 st1 x (hc.set hj) (ready_mono hi (Ne.symm hji)) hq2 ?_
      rw [Array.setIfInBounds_comm _ _ hji]
      exact evAny_log hm _ _ _ _ _ hl hk

end Go.Proofs.Ytmjcfcbjccepnaa.Eng
