/-
  Regions whose orders are not the text's: their plans, resolved, and the rules of the walk over them.
-/
import Derived.Test.YtmjcfcbjccepnaaE22
namespace Go.Proofs.Ytmjcfcbjccepnaa.Eng
open Go Go.RowKit
set_option linter.unusedSimpArgs false
set_option linter.unusedVariables false
set_option linter.unusedSectionVars false

variable {E : Env} {H H' H0 H1 H2 : AH}

abbrev RG := Option (Nat × Bool)
inductive RP where
  | done
  | quiet (op : Op) (dst : Option Tmp) (g : RG) (p : RP)
  | quietR (j : Nat) (op : Op) (dst : Option Tmp) (g : RG) (p : RP)
  | callF (f : Operand) (args : Array Operand) (tys : Array TypeId) (dst : Option Tmp) (g : RG) (p : RP)
  | callO (f : Operand) (args : Array Operand) (tys : Array TypeId) (dst : Option Tmp) (g : RG) (opens : List Nat) (p : RP)
  | opF (op : Op) (dst : Option Tmp) (g : RG) (p : RP)
  | opO (op : Op) (dst : Option Tmp) (g : RG) (opens : List Nat) (p : RP)
  | alt (p q : RP)

def resG (ops : List Oper) (o : Oper) : Option RG := match o.guard with
  | none => some none
  | some (j, want) => ((ops[j]?).bind fun x => x.dst).map fun d => some (d, want)

def mkLoud (op : Op) (dst : Option Tmp) (g : RG) (opens : List Nat) (p : RP) : RP := match op with
  | .call ⟨.value f, args, tys⟩ => if opens.isEmpty then .callF f args tys dst g p else .callO f args tys dst g opens p
  | op => if opens.isEmpty then .opF op dst g p else .opO op dst g opens p

def resolve (ops : List Oper) : Plan → List Nat → Option RP
  | .done, _ => some .done
  | .bad, _ => none
  | .alt p q, rd => (resolve ops p rd).bind fun p' => (resolve ops q rd).map fun q' => .alt p' q'
  | .quiet j p, rd => (ops[j]?).bind fun o => (resG ops o).bind fun g =>
      if readsMem o.op then (resolve ops p (j :: rd)).map fun p' => .quietR j o.op o.dst g p' else (resolve ops p rd).map fun p' => .quiet o.op o.dst g p'
  | .loud j p, rd => (ops[j]?).bind fun o => (resG ops o).bind fun g => (resolve ops p rd).map fun p' => mkLoud o.op o.dst g (rd.filter (fun i => !before ops i j)) p'

def wantR (g : RG) (s : List Value) : Bool := match g with
  | none => true
  | some (d, want) => (match sget s d with | .bool b => b == want | _ => false)
theorem wantR_none {s : List Value} : wantR none s = true := rfl
theorem wantR_some {s : List Value} {d : Nat} {want : Bool} : wantR (some (d, want)) s = (match sget s d with | .bool b => b == want | _ => false) := rfl

def openR (opens : List Nat) (log : Log) : List Nat := (log.filter fun x => opens.contains x.1).flatMap fun x => x.2
def clearR (opens : List Nat) (log : Log) (op : Op) (ρ : Operand → Value) : Bool := match turnsOf op ρ with
  | some l => (openR opens log).all fun b => !l.contains b
  | none => (openR opens log).isEmpty

def EvR (E : Env) : RP → Log → St → (St → Prop) → Prop
  | .done, _, st, k => k st
  | .alt p q, log, st, k => EvR E p log st k ∧ EvR E q log st k
  | .quiet op dst g p, log, st, k => condK (wantR g st.s) (bindK (evOp E op (sval st.s) st.H) fun r => EvR E p log ⟨sputO st.s dst r.1, st.H⟩ k) (EvR E p log ⟨sputO st.s dst undef, st.H⟩ k)
  | .quietR j op dst g p, log, st, k => condK (wantR g st.s) (bindK (evOp E op (sval st.s) st.H) fun r => EvR E p ((j, readsOf op (sval st.s)) :: log) ⟨sputO st.s dst r.1, st.H⟩ k) (EvR E p log ⟨sputO st.s dst undef, st.H⟩ k)
  | .callF f args tys dst g p, log, st, k => condK (wantR g st.s) (bindK (callOf st.s (.call ⟨.value f, args, tys⟩)) fun gv => EvCall E gv.1 gv.2 st.H fun v H' => EvR E p log ⟨sputO st.s dst v, H'⟩ k) (EvR E p log ⟨sputO st.s dst undef, st.H⟩ k)
  | .callO f args tys dst g opens p, log, st, k => condK (wantR g st.s) (bindK (callOf st.s (.call ⟨.value f, args, tys⟩)) fun gv =>
      condK (openR opens log).isEmpty (EvCall E gv.1 gv.2 st.H fun v H' => EvR E p log ⟨sputO st.s dst v, H'⟩ k)
        (EvCall E gv.1 gv.2 (lock st.H) fun v H' => EvR E p log ⟨sputO st.s dst v, st.H ++ H'.drop st.H.length⟩ k)) (EvR E p log ⟨sputO st.s dst undef, st.H⟩ k)
  | .opF op dst g p, log, st, k => condK (wantR g st.s) (bindK (evOp E op (sval st.s) st.H) fun r => EvR E p log ⟨sputO st.s dst r.1, r.2⟩ k) (EvR E p log ⟨sputO st.s dst undef, st.H⟩ k)
  | .opO op dst g opens p, log, st, k => condK (wantR g st.s) (condK (clearR opens log op (sval st.s)) (bindK (evOp E op (sval st.s) st.H) fun r => EvR E p log ⟨sputO st.s dst r.1, r.2⟩ k) False) (EvR E p log ⟨sputO st.s dst undef, st.H⟩ k)

/-! ### Soundness -/
theorem readsOf_not {op : Op} {ρ : Operand → Value} (h : readsMem op = false) : readsOf op ρ = [] := by
  unfold readsMem at h
  unfold readsOf
  split <;> simp_all

theorem want_res {ops : List Oper} {o : Oper} {g : RG} {s : List Value} (h : resG ops o = some g) : wantedA ops o s = wantR g s := by
  unfold resG at h
  unfold wantedA wantR
  cases hg : o.guard with
  | none => rw [hg] at h; simp at h; subst h; rfl
  | some jw =>
    obtain ⟨j, w⟩ := jw
    rw [hg] at h
    simp only at h ⊢
    cases hd : (ops[j]?).bind fun x => x.dst with
    | none => rw [hd] at h; simp at h
    | some d => rw [hd] at h; simp at h; subst h; rfl

theorem open_eq {ops : List Oper} {rd : List Nat} {j : Nat} : ∀ {log : Log}, (∀ x ∈ log, x.2 ≠ [] → x.1 ∈ rd) → openReads ops log j = openR (rd.filter fun i => !before ops i j) log
  | [], _ => rfl
  | x :: log, h => by
    have ih := open_eq (ops := ops) (rd := rd) (j := j) (log := log) fun y hy => h y (List.mem_cons_of_mem _ hy)
    unfold openReads openR at ih ⊢
    by_cases hb : before ops x.1 j = true
    · have hc : (rd.filter fun i => !before ops i j).contains x.1 = false := by
        simp [List.contains_iff_mem, hb]
      rw [List.filter_cons_of_neg (by simp [hb]), List.filter_cons_of_neg (by rw [hc]; simp)]
      exact ih
    · have hb : before ops x.1 j = false := by simpa using hb
      by_cases hr : x.1 ∈ rd
      · have hc : (rd.filter fun i => !before ops i j).contains x.1 = true := by
          simp [List.contains_iff_mem, hb, hr]
        rw [List.filter_cons_of_pos (by simp [hb]), List.filter_cons_of_pos (by simpa using hc), List.flatMap_cons, List.flatMap_cons, ih]
      · have hx : x.2 = [] := by
          by_cases hx : x.2 = []
          · exact hx
          · exact absurd (h x (List.mem_cons_self ..) hx) hr
        have hc : (rd.filter fun i => !before ops i j).contains x.1 = false := by
          simp [List.contains_iff_mem, hr]
        rw [List.filter_cons_of_pos (by simp [hb]), List.filter_cons_of_neg (by rw [hc]; simp), List.flatMap_cons, hx, ih]
        rfl

theorem open_nil {rd : List Nat} {log : Log} (h : rd = []) : openR rd log = [] := by
  subst h
  induction log with
  | nil => rfl
  | cons x log ih => unfold openR at ih ⊢; rw [List.filter_cons_of_neg (by simp)]; exact ih

def LogEq (log log' : Log) : Prop := ∀ opens, openR opens log = openR opens log'
theorem openR_cons {opens : List Nat} {j : Nat} {l : List Nat} {log : Log} : openR opens ((j, l) :: log) = cond (opens.contains j) (l ++ openR opens log) (openR opens log) := by
  unfold openR
  rw [List.filter_cons]
  cases h : opens.contains j <;> simp [h]
theorem LogEq.cons {log log' : Log} (h : LogEq log log') (x : Nat × List Nat) : LogEq (x :: log) (x :: log') := by
  intro opens
  obtain ⟨j, l⟩ := x
  rw [openR_cons, openR_cons, h opens]
theorem LogEq.empty {log : Log} {j : Nat} : LogEq log ((j, []) :: log) := by
  intro opens
  rw [openR_cons]
  cases opens.contains j <;> rfl
theorem EvR_logeq : ∀ (r : RP) {log log' : Log} {st : St} {k : St → Prop}, LogEq log log' → EvR E r log st k = EvR E r log' st k
  | .done, log, log', st, k, hl => rfl
  | .alt p q, log, log', st, k, hl => by unfold EvR; rw [EvR_logeq p hl, EvR_logeq q hl]
  | .quiet op dst g p, log, log', st, k, hl => by
    unfold EvR
    rw [EvR_logeq p hl]
    congr 2
    funext r; exact EvR_logeq p hl
  | .quietR j op dst g p, log, log', st, k, hl => by
    unfold EvR
    rw [EvR_logeq p hl]
    congr 2
    funext r; exact EvR_logeq p (hl.cons _)
  | .callF f args tys dst g p, log, log', st, k, hl => by
    unfold EvR
    rw [EvR_logeq p hl]
    congr 2
    funext gv; congr 1; funext v H'; exact EvR_logeq p hl
  | .callO f args tys dst g opens p, log, log', st, k, hl => by
    unfold EvR
    rw [EvR_logeq p hl, hl opens]
    congr 2
    funext gv; congr 1
    · congr 1; funext v H'; exact EvR_logeq p hl
    · congr 1; funext v H'; exact EvR_logeq p hl
  | .opF op dst g p, log, log', st, k, hl => by
    unfold EvR
    rw [EvR_logeq p hl]
    congr 2
    funext r; exact EvR_logeq p hl
  | .opO op dst g opens p, log, log', st, k, hl => by
    unfold EvR clearR
    rw [EvR_logeq p hl, hl opens]
    congr 3
    funext r; exact EvR_logeq p hl

theorem evPlan_up {ops : List Oper} {p : Plan} {log : Log} {st : St} {k : St → Prop} {n n' : Nat} (hn : n ≤ n') (h : evPlan PropAns E (evCall PropAns E n) ops p log st k) : evPlan PropAns E (evCall PropAns E n') ops p log st k :=
  evPlan_mono (evCall_le hn) (fun _ h => h) p log st h

theorem plan_call {ops : List Oper} {p : Plan} {log : Log} {f : FuncId} {args : List Value} {mk : Value → AH → St} {k : St → Prop} (h : EvCall E f args H fun v H' => EvPlan E ops p log (mk v H') k) :
    ∃ n, evCall PropAns E n f args H fun v H' => evPlan PropAns E (evCall PropAns E n) ops p log (mk v H') k := by
  obtain ⟨n, h⟩ := EvCall.bind (K := fun v H' n => evPlan PropAns E (evCall PropAns E n) ops p log (mk v H') k) (fun v H m m' hm h => evPlan_up hm h) h
  exact ⟨n, h n (Nat.le_refl _)⟩

theorem callOf_none {s : List Value} {op : Op} (h : isValCall op = false) : callOf s op = none := by
  unfold callOf
  split
  · simp [isValCall] at h
  · rfl

theorem EvR.sound {ops : List Oper} : ∀ (p : Plan) (r : RP) (rd : List Nat) (log : Log) (st : St) (k : St → Prop), resolve ops p rd = some r → (∀ x ∈ log, x.2 ≠ [] → x.1 ∈ rd) → EvR E r log st k → EvPlan E ops p log st k
  | .done, r, rd, log, st, k, hr, hl, h => by
    simp only [resolve, Option.some.injEq] at hr
    subst hr
    exact ⟨0, h⟩
  | .bad, r, rd, log, st, k, hr, hl, h => by simp [resolve] at hr
  | .alt p q, r, rd, log, st, k, hr, hl, h => by
    simp only [resolve] at hr
    cases hp : resolve ops p rd with
    | none => simp [hp] at hr
    | some p' =>
      cases hq : resolve ops q rd with
      | none => simp [hp, hq] at hr
      | some q' =>
        simp [hp, hq] at hr
        subst hr
        obtain ⟨h1, h2⟩ := h
        obtain ⟨n1, h1⟩ := EvR.sound p p' rd log st k hp hl h1
        obtain ⟨n2, h2⟩ := EvR.sound q q' rd log st k hq hl h2
        refine ⟨max n1 n2, ?_⟩
        simp only [evPlan]
        intro x hx
        simp only [List.mem_cons, List.not_mem_nil, or_false] at hx
        rcases hx with rfl | rfl
        · exact evPlan_up (Nat.le_max_left _ _) h1
        · exact evPlan_up (Nat.le_max_right _ _) h2
  | .quiet j p, r, rd, log, st, k, hr, hl, h => by
    simp only [resolve] at hr
    cases ho : ops[j]? with
    | none => simp [ho] at hr
    | some o =>
      cases hg : resG ops o with
      | none => simp [ho, hg] at hr
      | some g =>
        simp only [ho, hg, Option.bind_some] at hr
        by_cases hm : readsMem o.op = true
        · rw [if_pos hm] at hr
          cases hp : resolve ops p (j :: rd) with
          | none => simp [hp] at hr
          | some p' =>
            simp [hp] at hr
            subst hr
            unfold EvR at h
            have hw := want_res (s := st.s) hg
            cases hwv : wantR g st.s with
            | true =>
              rw [hwv] at h hw
              rw [condK_true] at h
              cases hev : evOp E o.op (sval st.s) st.H with
              | none => rw [hev] at h; exact h.elim
              | some vh =>
                obtain ⟨v, H2⟩ := vh
                rw [hev] at h
                obtain ⟨n, h⟩ := EvR.sound p p' (j :: rd) ((j, readsOf o.op (sval st.s)) :: log) _ k hp (fun x hx hne => by
                  rcases List.mem_cons.1 hx with rfl | hx
                  · exact List.mem_cons_self ..
                  · exact List.mem_cons_of_mem _ (hl x hx hne)) h
                exact ⟨n, by simp only [evPlan, ho, hw, if_true, hev]; exact h⟩
            | false =>
              rw [hwv] at h hw
              rw [condK_false] at h
              obtain ⟨n, h⟩ := EvR.sound p p' (j :: rd) log _ k hp (fun x hx hne => List.mem_cons_of_mem _ (hl x hx hne)) h
              exact ⟨n, by simp only [evPlan, ho, hw, Bool.false_eq_true, if_false]; exact h⟩
        · rw [if_neg hm] at hr
          have hm : readsMem o.op = false := by simpa using hm
          cases hp : resolve ops p rd with
          | none => simp [hp] at hr
          | some p' =>
            simp [hp] at hr
            subst hr
            unfold EvR at h
            have hw := want_res (s := st.s) hg
            cases hwv : wantR g st.s with
            | true =>
              rw [hwv] at h hw
              rw [condK_true] at h
              cases hev : evOp E o.op (sval st.s) st.H with
              | none => rw [hev] at h; exact h.elim
              | some vh =>
                obtain ⟨v, H2⟩ := vh
                rw [hev] at h
                have h3 : EvPlan E ops p ((j, readsOf o.op (sval st.s)) :: log) ⟨sputO st.s o.dst v, st.H⟩ k := by
                  refine EvR.sound p p' rd _ _ k hp (fun x hx hne => ?_) (show EvR E p' ((j, readsOf o.op (sval st.s)) :: log) _ k from ?_)
                  · rcases List.mem_cons.1 hx with rfl | hx
                    · exact absurd (readsOf_not hm) hne
                    · exact hl x hx hne
                  · rw [readsOf_not hm]; rw [← EvR_logeq p' LogEq.empty]; exact h
                obtain ⟨n, h⟩ := h3
                exact ⟨n, by simp only [evPlan, ho, hw, if_true, hev]; exact h⟩
            | false =>
              rw [hwv] at h hw
              rw [condK_false] at h
              obtain ⟨n, h⟩ := EvR.sound p p' rd log _ k hp hl h
              exact ⟨n, by simp only [evPlan, ho, hw, Bool.false_eq_true, if_false]; exact h⟩
  | .loud j p, r, rd, log, st, k, hr, hl, h => by
    simp only [resolve] at hr
    cases ho : ops[j]? with
    | none => simp [ho] at hr
    | some o =>
      cases hg : resG ops o with
      | none => simp [ho, hg] at hr
      | some g =>
        cases hp : resolve ops p rd with
        | none => simp [ho, hg, hp] at hr
        | some p' =>
          simp only [ho, hg, hp, Option.bind_some, Option.map_some, Option.some.injEq] at hr
          have hw := want_res (s := st.s) hg
          have hop := open_eq (ops := ops) (rd := rd) (j := j) hl
          have key : ∀ {st'}, EvR E p' log st' k → EvPlan E ops p log st' k := fun {st'} h => EvR.sound p p' rd log st' k hp hl h
          have miss : wantR g st.s = false → EvR E p' log ⟨sputO st.s o.dst undef, st.H⟩ k → EvPlan E ops (.loud j p) log st k := fun hwv h => by
            rw [hwv] at hw
            obtain ⟨n, h⟩ := key h
            exact ⟨n, by simp only [evPlan, ho, hw, Bool.false_eq_true, if_false]; exact h⟩
          have hopN : isValCall o.op = false → (openReads ops log j = [] ∨ turnsClear ops log j o.op (sval st.s) = true) → wantR g st.s = true → (bindK (evOp E o.op (sval st.s) st.H) fun r => EvR E p' log ⟨sputO st.s o.dst r.1, r.2⟩ k) → EvPlan E ops (.loud j p) log st k := fun hv hc hwv h => by
            rw [hwv] at hw
            cases hev : evOp E o.op (sval st.s) st.H with
            | none => rw [hev] at h; exact h.elim
            | some vh =>
              obtain ⟨v, H2⟩ := vh
              rw [hev] at h
              obtain ⟨n, h⟩ := key h
              exact ⟨n, by simp only [evPlan, ho, hw, if_true, callOf_none hv, if_pos hc, hev]; exact h⟩
          unfold mkLoud at hr
          split at hr
          · rename_i f args tys heq
            split at hr
            · rename_i hnil
              have hnil : (rd.filter fun i => !before ops i j) = [] := by simpa using hnil
              subst hr
              unfold EvR at h
              cases hwv : wantR g st.s with
              | false => rw [hwv, condK_false] at h; exact miss hwv h
              | true =>
                rw [hwv] at hw
                rw [hwv, condK_true] at h
                rw [hnil, open_nil rfl] at hop
                cases hcf : callOf st.s (.call ⟨.value f, args, tys⟩) with
                | none => rw [hcf] at h; exact h.elim
                | some gv =>
                  rw [hcf] at h
                  obtain ⟨n, h⟩ := plan_call (mk := fun v H' => ⟨sputO st.s o.dst v, H'⟩) (EvCall.mono h fun v H' h => key h)
                  exact ⟨n, by simp only [evPlan, ho, hw, if_true, heq, hcf, hop, if_pos]; exact h⟩
            · subst hr
              unfold EvR at h
              cases hwv : wantR g st.s with
              | false => rw [hwv, condK_false] at h; exact miss hwv h
              | true =>
                rw [hwv] at hw
                rw [hwv, condK_true] at h
                cases hcf : callOf st.s (.call ⟨.value f, args, tys⟩) with
                | none => rw [hcf] at h; exact h.elim
                | some gv =>
                  rw [hcf] at h
                  simp only [bindK_some] at h
                  rw [← hop] at h
                  cases hoe : openReads ops log j with
                  | nil =>
                    rw [hoe] at h
                    obtain ⟨n, h⟩ := plan_call (mk := fun v H' => ⟨sputO st.s o.dst v, H'⟩) (EvCall.mono h fun v H' h => key h)
                    exact ⟨n, by simp only [evPlan, ho, hw, if_true, heq, hcf, hoe, if_pos]; exact h⟩
                  | cons a b =>
                    rw [hoe] at h
                    obtain ⟨n, h⟩ := plan_call (mk := fun v H' => ⟨sputO st.s o.dst v, st.H ++ H'.drop st.H.length⟩) (EvCall.mono h fun v H' h => key h)
                    exact ⟨n, by simp only [evPlan, ho, hw, if_true, heq, hcf, hoe, List.cons_ne_nil, if_false]; exact h⟩
          · rename_i hv
            have hvc : isValCall o.op = false := by
              unfold isValCall
              split
              · rename_i f args tys heq; exact absurd heq (hv f args tys)
              · rfl
            split at hr
            · rename_i hnil
              have hnil : (rd.filter fun i => !before ops i j) = [] := by simpa using hnil
              subst hr
              unfold EvR at h
              cases hwv : wantR g st.s with
              | false => rw [hwv, condK_false] at h; exact miss hwv h
              | true =>
                rw [hwv, condK_true] at h
                rw [hnil, open_nil rfl] at hop
                exact hopN hvc (.inl hop) hwv h
            · subst hr
              unfold EvR at h
              cases hwv : wantR g st.s with
              | false => rw [hwv, condK_false] at h; exact miss hwv h
              | true =>
                rw [hwv, condK_true] at h
                cases hcl : clearR (rd.filter fun i => !before ops i j) log o.op (sval st.s) with
                | false => rw [hcl, condK_false] at h; exact h.elim
                | true =>
                  rw [hcl, condK_true] at h
                  refine hopN hvc ?_ hwv h
                  unfold clearR at hcl
                  unfold turnsClear
                  cases ht : turnsOf o.op (sval st.s) with
                  | none =>
                    rw [ht] at hcl
                    left; rw [hop]; simpa using hcl
                  | some l =>
                    rw [ht] at hcl
                    right; simp only; rw [hop]; exact hcl

/-! ### The rules -/
@[congr] theorem EvR_congr {r : RP} {log log' : Log} {st st' : St} {k : St → Prop} (hl : log = log') (h : st = st') : EvR E r log st k = EvR E r log' st' k := by rw [hl, h]
theorem EvR_done {log : Log} {st : St} {k : St → Prop} : EvR E .done log st k = k st := propext Iff.rfl
def nxl (log : Log) (j : Nat) (l : List Nat) : Log := (j, l) :: log
/-- The state behind a quiet operation. -/
def nxq (s : List Value) (dst : Option Tmp) (H : AH) (r : Value × AH) : St := ⟨sputO s dst r.1, H⟩
theorem nxq_pair {s : List Value} {dst : Option Tmp} {v : Value} : nxq s dst H (v, H') = ⟨sputO s dst v, H⟩ := rfl
theorem EvR_quiet {op : Op} {dst : Option Tmp} {p : RP} {log : Log} {s : List Value} {k : St → Prop} : EvR E (.quiet op dst none p) log ⟨s, H⟩ k = bindK (evOp E op (sval s) H) fun r => EvR E p log (nxq s dst H r) k := propext Iff.rfl
theorem EvR_quietR {j : Nat} {op : Op} {dst : Option Tmp} {p : RP} {log : Log} {s : List Value} {k : St → Prop} : EvR E (.quietR j op dst none p) log ⟨s, H⟩ k = bindK (evOp E op (sval s) H) fun r => EvR E p ((j, readsOf op (sval s)) :: log) (nxq s dst H r) k := propext Iff.rfl
def RCall (E : Env) (p : RP) (log : Log) (s : List Value) (dst : Option Tmp) (H : AH) (k : St → Prop) (g : FuncId × List Value) : Prop := EvCall E g.1 g.2 H fun v H' => EvR E p log (nxc s dst v H') k
theorem RCall_pair {p : RP} {log : Log} {s : List Value} {dst : Option Tmp} {k : St → Prop} {f : FuncId} {args : List Value} : RCall E p log s dst H k (f, args) = EvCall E f args H fun v H' => EvR E p log (nxc s dst v H') k := propext Iff.rfl
theorem EvR_callF {f : Operand} {args : Array Operand} {tys : Array TypeId} {dst : Option Tmp} {p : RP} {log : Log} {s : List Value} {k : St → Prop} : EvR E (.callF f args tys dst none p) log ⟨s, H⟩ k = bindK (callOf s (.call ⟨.value f, args, tys⟩)) fun g => RCall E p log s dst H k g := propext Iff.rfl
def RCallO (E : Env) (b : Bool) (p : RP) (log : Log) (s : List Value) (dst : Option Tmp) (H : AH) (k : St → Prop) (g : FuncId × List Value) : Prop :=
  condK b (EvCall E g.1 g.2 H fun v H' => EvR E p log ⟨sputO s dst v, H'⟩ k) (EvCall E g.1 g.2 (lock H) fun v H' => EvR E p log ⟨sputO s dst v, H ++ H'.drop H.length⟩ k)
theorem RCallO_true {p : RP} {log : Log} {s : List Value} {dst : Option Tmp} {k : St → Prop} {f : FuncId} {args : List Value} : RCallO E true p log s dst H k (f, args) = EvCall E f args H fun v H' => EvR E p log (nxc s dst v H') k := propext Iff.rfl
theorem RCallO_false {p : RP} {log : Log} {s : List Value} {dst : Option Tmp} {k : St → Prop} {f : FuncId} {args : List Value} : RCallO E false p log s dst H k (f, args) = EvCall E f args (lock H) fun v H' => EvR E p log (nxc s dst v (H ++ H'.drop H.length)) k := propext Iff.rfl
theorem EvR_callO {f : Operand} {args : Array Operand} {tys : Array TypeId} {dst : Option Tmp} {opens : List Nat} {p : RP} {log : Log} {s : List Value} {k : St → Prop} : EvR E (.callO f args tys dst none opens p) log ⟨s, H⟩ k = bindK (callOf s (.call ⟨.value f, args, tys⟩)) fun g => RCallO E (openR opens log).isEmpty p log s dst H k g := propext Iff.rfl
theorem EvR_opF {op : Op} {dst : Option Tmp} {p : RP} {log : Log} {s : List Value} {k : St → Prop} : EvR E (.opF op dst none p) log ⟨s, H⟩ k = bindK (evOp E op (sval s) H) fun r => EvR E p log (nxt s dst r) k := propext Iff.rfl
def ROp (E : Env) (b : Bool) (op : Op) (dst : Option Tmp) (p : RP) (log : Log) (s : List Value) (H : AH) (k : St → Prop) : Prop := condK b (bindK (evOp E op (sval s) H) fun r => EvR E p log (nxt s dst r) k) False
theorem ROp_true {op : Op} {dst : Option Tmp} {p : RP} {log : Log} {s : List Value} {k : St → Prop} : ROp E true op dst p log s H k = bindK (evOp E op (sval s) H) fun r => EvR E p log (nxt s dst r) k := propext Iff.rfl
theorem EvR_opO {op : Op} {dst : Option Tmp} {opens : List Nat} {p : RP} {log : Log} {s : List Value} {k : St → Prop} : EvR E (.opO op dst none opens p) log ⟨s, H⟩ k = ROp E (clearR opens log op (sval s)) op dst p log s H k := propext Iff.rfl
/-- A guarded operation. -/
def unG : RP → RP
  | .quiet op dst _ p => .quiet op dst none p
  | .quietR j op dst _ p => .quietR j op dst none p
  | .callF f args tys dst _ p => .callF f args tys dst none p
  | .callO f args tys dst _ opens p => .callO f args tys dst none opens p
  | .opF op dst _ p => .opF op dst none p
  | .opO op dst _ opens p => .opO op dst none opens p
  | p => p
def RGd (E : Env) (b : Bool) (o p : RP) (log : Log) (s : List Value) (dst : Option Tmp) (H : AH) (k : St → Prop) : Prop := match b with
  | true => EvR E o log ⟨s, H⟩ k
  | false => EvR E p log ⟨sputO s dst undef, H⟩ k
theorem RGd_true {o p : RP} {log : Log} {s : List Value} {dst : Option Tmp} {k : St → Prop} : RGd E true o p log s dst H k = EvR E o log ⟨s, H⟩ k := propext Iff.rfl
theorem RGd_false {o p : RP} {log : Log} {s : List Value} {dst : Option Tmp} {k : St → Prop} : RGd E false o p log s dst H k = EvR E p log ⟨sputO s dst undef, H⟩ k := propext Iff.rfl
theorem EvR_quietG {op : Op} {dst : Option Tmp} {g : Nat × Bool} {p : RP} {log : Log} {s : List Value} {k : St → Prop} : EvR E (.quiet op dst (some g) p) log ⟨s, H⟩ k = RGd E (wantR (some g) s) (.quiet op dst none p) p log s dst H k := by
  unfold EvR RGd; cases wantR (some g) s <;> rfl
theorem EvR_quietRG {j : Nat} {op : Op} {dst : Option Tmp} {g : Nat × Bool} {p : RP} {log : Log} {s : List Value} {k : St → Prop} : EvR E (.quietR j op dst (some g) p) log ⟨s, H⟩ k = RGd E (wantR (some g) s) (.quietR j op dst none p) p log s dst H k := by
  unfold EvR RGd; cases wantR (some g) s <;> rfl
theorem EvR_callFG {f : Operand} {args : Array Operand} {tys : Array TypeId} {dst : Option Tmp} {g : Nat × Bool} {p : RP} {log : Log} {s : List Value} {k : St → Prop} : EvR E (.callF f args tys dst (some g) p) log ⟨s, H⟩ k = RGd E (wantR (some g) s) (.callF f args tys dst none p) p log s dst H k := by
  unfold EvR RGd; cases wantR (some g) s <;> rfl
theorem EvR_callOG {f : Operand} {args : Array Operand} {tys : Array TypeId} {dst : Option Tmp} {g : Nat × Bool} {opens : List Nat} {p : RP} {log : Log} {s : List Value} {k : St → Prop} : EvR E (.callO f args tys dst (some g) opens p) log ⟨s, H⟩ k = RGd E (wantR (some g) s) (.callO f args tys dst none opens p) p log s dst H k := by
  unfold EvR RGd; cases wantR (some g) s <;> rfl
theorem EvR_opFG {op : Op} {dst : Option Tmp} {g : Nat × Bool} {p : RP} {log : Log} {s : List Value} {k : St → Prop} : EvR E (.opF op dst (some g) p) log ⟨s, H⟩ k = RGd E (wantR (some g) s) (.opF op dst none p) p log s dst H k := by
  unfold EvR RGd; cases wantR (some g) s <;> rfl
theorem EvR_opOG {op : Op} {dst : Option Tmp} {g : Nat × Bool} {opens : List Nat} {p : RP} {log : Log} {s : List Value} {k : St → Prop} : EvR E (.opO op dst (some g) opens p) log ⟨s, H⟩ k = RGd E (wantR (some g) s) (.opO op dst none opens p) p log s dst H k := by
  unfold EvR RGd; cases wantR (some g) s <;> rfl

def rdsP : Value → List Nat
  | .pointer (some ad) => [ad.block]
  | _ => []
theorem readsOf_load {t : TypeId} {a : Operand} {ρ : Operand → Value} : readsOf (.load t a) ρ = rdsP (ρ a) := by unfold readsOf rdsP; rfl
theorem rdsP_some {ad : Addr} : rdsP (.pointer (some ad)) = [ad.block] := rfl
def rdsS : Value → List Nat
  | .slice (some a) _ _ => [a.block]
  | _ => []
theorem readsOf_slice {t : TypeId} {x : Operand} {a b c : Option Operand} {ρ : Operand → Value} : readsOf (.slice t x a b c) ρ = rdsS (ρ x) := by unfold readsOf rdsS; rfl
theorem rdsS_some {ad : Addr} {n c : Nat} : rdsS (.slice (some ad) n c) = [ad.block] := rfl
def rdsM : Value → Option Nat
  | .map (some r) => some r
  | _ => none
theorem readsOf_lookup {t : TypeId} {x i : Operand} {ok : Bool} {ρ : Operand → Value} : readsOf (.lookup t x i ok) ρ = (rdsM (ρ x)).toList := by
  unfold readsOf rdsM; simp only; split <;> simp_all
theorem readsOf_len {args : Array Operand} {tys : Array TypeId} {ρ : Operand → Value} : readsOf (.call ⟨.builtin .len, args, tys⟩) ρ = args.toList.filterMap fun x => rdsM (ρ x) := by
  unfold readsOf rdsM; rfl
theorem openR_nil {opens : List Nat} : openR opens [] = [] := rfl
def turnsA : Value → Option (List Nat)
  | .slice (some a) _ _ => some [a.block]
  | .slice none _ _ => some []
  | _ => none
theorem clearR_some {opens : List Nat} {log : Log} {op : Op} {ρ : Operand → Value} {l : List Nat} (h : turnsOf op ρ = some l) : clearR opens log op ρ = (openR opens log).all fun b => !l.contains b := by unfold clearR; rw [h]
theorem clearR_alloc {opens : List Nat} {log : Log} {t : TypeId} {ρ : Operand → Value} : clearR opens log (.alloc t) ρ = true := by rw [clearR_some rfl]; simp
theorem clearR_box {opens : List Nat} {log : Log} {t : TypeId} {x : Operand} {ρ : Operand → Value} : clearR opens log (.box t x) ρ = true := by rw [clearR_some rfl]; simp
theorem clearR_buildSlice {opens : List Nat} {log : Log} {t : TypeId} {n : Nat} {ps : Array (Nat × Operand)} {ρ : Operand → Value} : clearR opens log (.buildSlice t n ps) ρ = true := by rw [clearR_some rfl]; simp
theorem clearR_makeSlice {opens : List Nat} {log : Log} {t : TypeId} {a b : Operand} {ρ : Operand → Value} : clearR opens log (.makeSlice t a b) ρ = true := by rw [clearR_some rfl]; simp
theorem clearR_makeMap {opens : List Nat} {log : Log} {t : TypeId} {a : Option Operand} {ρ : Operand → Value} : clearR opens log (.makeMap t a) ρ = true := by rw [clearR_some rfl]; simp
theorem clearR_convert {opens : List Nat} {log : Log} {s t : TypeId} {x : Operand} {ρ : Operand → Value} : clearR opens log (.convert s t x) ρ = true := by rw [clearR_some rfl]; simp
def clearA (opens : List Nat) (log : Log) (v : Value) : Bool := match v with
  | .slice (some a) _ _ => (openR opens log).all fun b => b != a.block
  | .slice none _ _ => true
  | _ => (openR opens log).isEmpty
theorem clearR_append {opens : List Nat} {log : Log} {x y : Operand} {tys : Array TypeId} {ρ : Operand → Value} : clearR opens log (.call ⟨.builtin .append, #[x, y], tys⟩) ρ = clearA opens log (ρ x) := by
  unfold clearR clearA turnsOf
  simp only [List.map_cons, List.map_nil]
  cases hx : ρ x with
  | slice b n c =>
    cases b with
    | none => simp
    | some a =>
      simp only
      congr 1
      funext b
      rw [Bool.eq_iff_iff]
      simp
  | _ => rfl
theorem clearA_none {opens : List Nat} {log : Log} {n c : Nat} : clearA opens log (.slice none n c) = true := rfl
theorem clearA_some {opens : List Nat} {log : Log} {a : Addr} {n c : Nat} : clearA opens log (.slice (some a) n c) = (openR opens log).all fun b => b != a.block := rfl

theorem ev_pl {ops : Array Oper} {id : Nat} {st : St} {Q : Exit → St → Prop} (hok : regionOk ops.toList = true) (htx : textOk ops.toList = false) (r : RP) (hp : resolve ops.toList (planOf ops.toList ops.toList.length []) [] = some r) (h : ∀ K : St → Prop, (∀ st, Q .normal st → K st) → EvR E r [] st K) : Ev E (.region id ops true) st Q :=
  ev_region_plan hok htx _ rfl fun K hK => EvR.sound _ r [] [] st K hp (fun _ h => by simp at h) (h K hK)
theorem ev_pl_seq {ops : Array Oper} {id : Nat} {b : Code} {st : St} {Q : Exit → St → Prop} (hok : regionOk ops.toList = true) (htx : textOk ops.toList = false) (r : RP) (hp : resolve ops.toList (planOf ops.toList ops.toList.length []) [] = some r) (h : ∀ K : St → Prop, (∀ st, Ev E b st Q → K st) → EvR E r [] st K) : Ev E (.seq (.region id ops true) b) st Q :=
  ev_seq (ev_pl hok htx r hp h)

/-! ### Locked memory -/
theorem lockG {r : Nat} {o : AObj} (h : H[r]? = some o) : (lock H)[r]? = some (lockO o) := by
  unfold lock; rw [List.getElem?_map, h]; rfl
theorem lock_len : (lock H).length = H.length := by unfold lock; rw [List.length_map]
theorem lock_ld {a : Addr} : ld E (lock H) a = ld E H a := by
  unfold ld
  by_cases h : a.block < E.M
  · rw [if_pos h, if_pos h]
  · rw [if_neg h, if_neg h]
    by_cases h2 : a.spot.isSome = true
    · rw [if_pos h2, if_pos h2]
    · rw [if_neg h2, if_neg h2]
      cases h3 : H[a.block - E.M]? with
      | none => unfold lock; rw [List.getElem?_map, h3]; rfl
      | some o => rw [lockG h3]; cases o <;> rfl
theorem lock_ldc {a : Addr} : ∀ {n i : Nat}, ldc E (lock H) a i n = ldc E H a i n
  | 0, i => rfl
  | n + 1, i => by simp only [ldc, lock_ld, lock_ldc]
theorem lock_rd {k : Nat} {v : Value} {css : List (List Value)} (h : Rd E H k v css) : Rd E (lock H) k v css := by
  obtain ⟨b, c, hv, hr⟩ := h
  exact ⟨b, c, hv, fun i cs hi => let ⟨a, ha, hl⟩ := hr i cs hi; ⟨a, ha, by rw [lock_ldc]; exact hl⟩⟩
theorem lock_pre (h : Pre (lock H) H') : Pre H (H ++ H'.drop H.length) := Pre.app _

end Go.Proofs.Ytmjcfcbjccepnaa.Eng
