/-
  The rules by which a function is walked on the abstract machine.
-/
import Derived.Test.YtmjcfcbjccepnaaE15
namespace Go.Proofs.Ytmjcfcbjccepnaa.Eng
open Go Go.RowKit
set_option linter.unusedSimpArgs false
set_option linter.unusedVariables false
set_option linter.unusedSectionVars false

variable {E : Env} {H H' H2 : AH}

/-! ### One bound for many ends -/
def CallChain (call : CallK Prop) : Prop := ∀ g vs H (K : Nat → Value → AH → Prop), (∀ m m', m ≤ m' → ∀ v H, K m v H → K m' v H) → call g vs H (fun v H => ∃ m, K m v H) → ∃ m, call g vs H (K m)
def StMono (K : Nat → St → Prop) : Prop := ∀ m m', m ≤ m' → ∀ st, K m st → K m' st

theorem evOper_chain {call : CallK Prop} (hm : CallMono call) (hc : CallChain call) {o : Oper} {st : St} {K : Nat → St → Prop} (hK : StMono K) (h : evOper PropAns E call o st fun st => ∃ m, K m st) : ∃ m, evOper PropAns E call o st (K m) := by
  unfold evOper at h ⊢
  split at h
  · split at h
    · rename_i g vs hg
      exact hc g vs st.H (fun m v H' => K m ⟨sputO st.s o.dst v, H'⟩) (fun m m' hmm v H' => hK m m' hmm _) h
    · exact h.elim
  · split at h
    · exact h
    · exact h.elim

theorem evOps_chain {call : CallK Prop} (hm : CallMono call) (hc : CallChain call) {ops : List Oper} {K : Nat → St → Prop} (hK : StMono K) : ∀ (rest : List Oper) (st : St), evOps PropAns E call ops rest st (fun st => ∃ m, K m st) → ∃ m, evOps PropAns E call ops rest st (K m)
  | [], st, h => h
  | o :: rest, st, h => by
    unfold evOps at h ⊢
    by_cases hw : wantedA ops o st.s = true
    · simp only [if_pos hw] at h ⊢
      have h2 := evOper_mono hm (fun st' h => evOps_chain hm hc hK rest st' h) h
      exact evOper_chain hm hc (K := fun m st' => evOps PropAns E call ops rest st' (K m)) (fun m m' hmm st' => evOps_mono hm (hK m m' hmm) rest st') h2
    · simp only [if_neg hw] at h ⊢
      exact evOps_chain hm hc hK rest _ h

theorem evPlan_chain {call : CallK Prop} (hm : CallMono call) (hc : CallChain call) {ops : List Oper} {K : Nat → St → Prop} (hK : StMono K) : ∀ (p : Plan) (log : Log) (st : St), evPlan PropAns E call ops p log st (fun st => ∃ m, K m st) → ∃ m, evPlan PropAns E call ops p log st (K m)
  | .done, log, st, h => h
  | .bad, log, st, h => h.elim
  | .alt p q, log, st, h => by
    simp only [evPlan] at h ⊢
    obtain ⟨m1, h1⟩ := evPlan_chain (ops := ops) hm hc hK p log st (h _ (List.mem_cons_self ..))
    obtain ⟨m2, h2⟩ := evPlan_chain (ops := ops) hm hc hK q log st (h _ (List.mem_cons_of_mem _ (List.mem_cons_self ..)))
    refine ⟨max m1 m2, fun x hx => ?_⟩
    simp only [List.mem_cons, List.not_mem_nil, or_false] at hx
    rcases hx with rfl | rfl
    · exact evPlan_mono hm (hK _ _ (Nat.le_max_left _ _)) p log st h1
    · exact evPlan_mono hm (hK _ _ (Nat.le_max_right _ _)) q log st h2
  | .quiet j p, log, st, h => by
    simp only [evPlan] at h ⊢
    cases ho : ops[j]? with
    | none => rw [ho] at h; exact h.elim
    | some o =>
      rw [ho] at h
      simp only at h ⊢
      by_cases hw : wantedA ops o st.s = true
      · simp only [if_pos hw] at h ⊢
        cases hev : evOp E o.op (sval st.s) st.H with
        | none => rw [hev] at h; exact h.elim
        | some vh => obtain ⟨v, H'⟩ := vh; rw [hev] at h; exact evPlan_chain hm hc hK p _ _ h
      · simp only [if_neg hw] at h ⊢
        exact evPlan_chain hm hc hK p _ _ h
  | .loud j p, log, st, h => by
    simp only [evPlan] at h ⊢
    cases ho : ops[j]? with
    | none => rw [ho] at h; exact h.elim
    | some o =>
      rw [ho] at h
      simp only at h ⊢
      by_cases hw : wantedA ops o st.s = true
      · simp only [if_pos hw] at h ⊢
        cases hcall : callOf st.s o.op with
        | some gv =>
          obtain ⟨g, vs⟩ := gv
          rw [hcall] at h
          simp only at h ⊢
          by_cases hop : openReads ops log j = []
          · simp only [if_pos hop] at h ⊢
            have h2 := hm _ _ _ _ _ (fun v H' => evPlan_chain hm hc hK p log ⟨sputO st.s o.dst v, H'⟩) h
            exact hc g vs _ (fun m v H' => evPlan PropAns E call ops p log ⟨sputO st.s o.dst v, H'⟩ (K m)) (fun m m' hmm v H' => evPlan_mono hm (hK m m' hmm) p _ _) h2
          · simp only [if_neg hop] at h ⊢
            have h2 := hm _ _ _ _ _ (fun v H' => evPlan_chain hm hc hK p log ⟨sputO st.s o.dst v, st.H ++ H'.drop st.H.length⟩) h
            exact hc g vs _ (fun m v H' => evPlan PropAns E call ops p log ⟨sputO st.s o.dst v, st.H ++ H'.drop st.H.length⟩ (K m)) (fun m m' hmm v H' => evPlan_mono hm (hK m m' hmm) p _ _) h2
        | none =>
          rw [hcall] at h
          simp only at h ⊢
          by_cases hop : openReads ops log j = [] ∨ turnsClear ops log j o.op (sval st.s) = true
          · simp only [if_pos hop] at h ⊢
            cases hev : evOp E o.op (sval st.s) st.H with
            | none => rw [hev] at h; exact h.elim
            | some vh => obtain ⟨v, H'⟩ := vh; rw [hev] at h; exact evPlan_chain hm hc hK p _ _ h
          · simp only [if_neg hop] at h
            exact h.elim
      · simp only [if_neg hw] at h ⊢
        exact evPlan_chain hm hc hK p _ _ h

theorem evRegion_chain {call : CallK Prop} (hm : CallMono call) (hc : CallChain call) {ops : List Oper} {draw : Bool} {st : St} {K : Nat → St → Prop} (hK : StMono K) (h : evRegion PropAns E call ops draw st fun st => ∃ m, K m st) : ∃ m, evRegion PropAns E call ops draw st (K m) := by
  unfold evRegion at h ⊢
  cases draw with
  | false => exact evOps_chain hm hc hK _ _ h
  | true =>
    simp only [if_true] at h ⊢
    by_cases h1 : regionOk ops = true
    · simp only [if_pos h1] at h ⊢
      by_cases h2 : textOk ops = true
      · simp only [if_pos h2] at h ⊢; exact evOps_chain hm hc hK _ _ h
      · simp only [if_neg h2] at h ⊢; exact evPlan_chain hm hc hK _ _ _ h
    · simp only [if_neg h1] at h; exact h.elim

def RecChain (r : Rec) : Prop := ∀ c st (K : Nat → Exit → St → Prop), (∀ m m', m ≤ m' → ∀ e st, K m e st → K m' e st) → r c st (fun e st => ∃ m, K m e st) → ∃ m, r c st (K m)

theorem retA_chain {rs : List ResultVar} {K : Nat → Value → AH → Prop} : ∀ e st, RetA PropAns E rs (fun v H => ∃ m, K m v H) e st → ∃ m, RetA PropAns E rs (K m) e st := by
  intro e st h
  have key : (match evResults E st.H st.s rs with | some vs => ∃ m, K m (oneOrTuple vs) st.H | none => PropAns.bot) → ∃ m, (match evResults E st.H st.s rs with | some vs => K m (oneOrTuple vs) st.H | none => PropAns.bot) := by
    cases evResults E st.H st.s rs with
    | none => exact fun h => h.elim
    | some vs => exact id
  cases e <;> first | exact key h | exact (show False from h).elim

theorem evCallWith_chain {r : Rec} (hm : RecLe r r) (hr : RecChain r) : CallChain (evCallWith PropAns E r) := by
  intro g vs H K hK h
  unfold evCallWith at h ⊢
  cases hx : E.ext g with
  | some ge =>
    rw [hx] at h
    simp only at h ⊢
    cases hg : ge vs H with
    | none => rw [hg] at h; exact h.elim
    | some r => rw [hg] at h; exact h
  | none =>
  rw [hx] at h
  simp only at h ⊢
  cases hf : E.P.funcs[g]? with
  | none => rw [hf] at h; exact h.elim
  | some fn =>
    rw [hf] at h
    simp only at h ⊢
    cases hb : fn.body with
    | none => rw [hb] at h; exact h.elim
    | some c =>
      rw [hb] at h
      simp only at h ⊢
      by_cases hok : funcOk E fn = true ∧ vs.length ≤ fn.ntmps
      · simp only [if_pos hok] at h ⊢
        exact hr _ _ (fun m => RetA PropAns E fn.results.toList (K m)) (fun m m' hmm => retA_mono (hK m m' hmm)) (hm _ _ _ _ retA_chain h)
      · simp only [if_neg hok] at h
        exact h.elim

theorem evCode_chain : ∀ n, RecChain (evCode PropAns E n)
  | 0 => fun c st K hK h => by simp only [evCode] at h; exact h.elim
  | n + 1 => fun c st K hK h => by
    have ih := evCode_chain n
    have mono := evCode_mono (E := E) n n (Nat.le_refl _)
    unfold evCode at h ⊢
    cases c with
    | skip => exact h
    | label l => exact h
    | ret => exact h
    | exit id => exact h
    | region id ops draw => exact evRegion_chain (evCallWith_mono mono) (evCallWith_chain mono ih) (fun m m' hmm st => hK m m' hmm _ st) h
    | scope b =>
      have h2 := mono _ _ _ (fun e st => ∃ m, ScoA PropAns (K m) e st) (fun e st h => by cases e <;> first | exact h | exact (show False from h).elim) h
      refine ih _ _ (fun m => ScoA PropAns (K m)) ?_ h2
      intro m m' hmm e st h
      cases e <;> first | exact hK _ _ hmm _ _ h | exact h
    | seq a b =>
      have h2 := mono _ _ _ (fun e st => ∃ m, Norm (fun st' => evCode PropAns E n b st' (K m)) (K m) e st) (fun e st h => by
        cases e with
        | normal => exact ih _ _ _ hK h
        | _ => exact h) h
      refine ih _ _ (fun m => Norm (fun st' => evCode PropAns E n b st' (K m)) (K m)) ?_ h2
      intro m m' hmm e st h
      cases e with
      | normal => exact mono _ _ _ _ (hK _ _ hmm) h
      | _ => exact hK _ _ hmm _ _ h
    | cond c a b =>
      simp only at h ⊢
      split at h
      · exact ih _ _ _ hK h
      · exact ih _ _ _ hK h
      · exact h.elim
    | block id b =>
      have h2 := mono _ _ _ (fun e st => ∃ m, Blk id (K m) e st) (fun e st h => by
        cases e with
        | exit id' =>
          simp only [Blk] at h ⊢
          by_cases e : id' = id
          · simp only [if_pos e] at h ⊢; exact h
          · simp only [if_neg e] at h ⊢; exact h
        | _ => exact h) h
      refine ih _ _ (fun m => Blk id (K m)) ?_ h2
      intro m m' hmm e st h
      cases e with
      | exit id' =>
        simp only [Blk] at h ⊢
        by_cases e : id' = id
        · simp only [if_pos e] at h ⊢; exact hK _ _ hmm _ _ h
        · simp only [if_neg e] at h ⊢; exact hK _ _ hmm _ _ h
      | _ => exact hK _ _ hmm _ _ h
    | loop b =>
      have h2 := mono _ _ _ (fun e st => ∃ m, Norm (fun st' => evCode PropAns E n (.loop b) st' (K m)) (K m) e st) (fun e st h => by
        cases e with
        | normal => exact ih _ _ _ hK h
        | _ => exact h) h
      refine ih _ _ (fun m => Norm (fun st' => evCode PropAns E n (.loop b) st' (K m)) (K m)) ?_ h2
      intro m m' hmm e st h
      cases e with
      | normal => exact mono _ _ _ _ (hK _ _ hmm) h
      | _ => exact hK _ _ hmm _ _ h
    | _ => exact h.elim

/-! ### The rules -/
def Ev (E : Env) (c : Code) (st : St) (Q : Exit → St → Prop) : Prop := ∃ n, evCode PropAns E n c st Q
def EvCall (E : Env) (f : FuncId) (args : List Value) (H : AH) (k : Value → AH → Prop) : Prop := ∃ n, evCall PropAns E n f args H k
def EvOps (E : Env) (ops rest : List Oper) (st : St) (k : St → Prop) : Prop := ∃ n, evOps PropAns E (evCall PropAns E n) ops rest st k
def EvPlan (E : Env) (ops : List Oper) (p : Plan) (log : Log) (st : St) (k : St → Prop) : Prop := ∃ n, evPlan PropAns E (evCall PropAns E n) ops p log st k

abbrev Sco (Q : Exit → St → Prop) : Exit → St → Prop := ScoA PropAns Q
abbrev Ret (E : Env) (rs : List ResultVar) (k : Value → AH → Prop) : Exit → St → Prop := RetA PropAns E rs k

theorem norm_normal {N : St → Prop} {Q : Exit → St → Prop} {st : St} (h : N st) : Norm N Q .normal st := h
theorem norm_ret {N : St → Prop} {Q : Exit → St → Prop} {st : St} (h : Q .ret st) : Norm N Q .ret st := h
theorem norm_exit {N : St → Prop} {Q : Exit → St → Prop} {st : St} {i : Nat} (h : Q (.exit i) st) : Norm N Q (.exit i) st := h
theorem blk_normal {id : Nat} {Q : Exit → St → Prop} {st : St} (h : Q .normal st) : Blk id Q .normal st := h
theorem blk_ret {id : Nat} {Q : Exit → St → Prop} {st : St} (h : Q .ret st) : Blk id Q .ret st := h
theorem blk_exit_eq {id : Nat} {Q : Exit → St → Prop} {st : St} (h : Q .normal st) : Blk id Q (.exit id) st := by
  show (if id = id then _ else _); rw [if_pos rfl]; exact h
theorem blk_exit_ne {id i : Nat} {Q : Exit → St → Prop} {st : St} (hi : (i == id) = false) (h : Q (.exit i) st) : Blk id Q (.exit i) st := by
  show (if i = id then _ else _); rw [if_neg (by simpa using hi)]; exact h
theorem sco_normal {Q : Exit → St → Prop} {st : St} (h : Q .normal st) : Sco Q .normal st := h
theorem sco_ret {Q : Exit → St → Prop} {st : St} (h : Q .ret st) : Sco Q .ret st := h
theorem sco_exit {Q : Exit → St → Prop} {st : St} {i : Nat} (h : Q (.exit i) st) : Sco Q (.exit i) st := h
theorem ret_of {rs : List ResultVar} {k : Value → AH → Prop} {e : Exit} {st : St} {vs : List Value} (he : e = .normal ∨ e = .ret) (h : evResults E st.H st.s rs = some vs) (hk : k (oneOrTuple vs) st.H) : Ret E rs k e st := by
  rcases he with rfl | rfl <;> (simp only [Ret, RetA, h]; exact hk)

theorem Ev.mono {c : Code} {st : St} {Q Q' : Exit → St → Prop} (h : Ev E c st Q) (hq : ∀ e st, Q e st → Q' e st) : Ev E c st Q' := by
  obtain ⟨n, h⟩ := h
  exact ⟨n, evCode_mono n n (Nat.le_refl _) _ _ _ _ hq h⟩
theorem EvCall.mono {f : FuncId} {args : List Value} {k k' : Value → AH → Prop} (h : EvCall E f args H k) (hq : ∀ v H', k v H' → k' v H') : EvCall E f args H k' := by
  obtain ⟨n, h⟩ := h
  exact ⟨n, evCall_le (Nat.le_refl _) _ _ _ _ _ hq h⟩

theorem ev_skip {st : St} {Q : Exit → St → Prop} (h : Q .normal st) : Ev E .skip st Q := ⟨1, by simpa [evCode] using h⟩
theorem ev_label {st : St} {Q : Exit → St → Prop} {l : Nat} (h : Q .normal st) : Ev E (.label l) st Q := ⟨1, by simpa [evCode] using h⟩
theorem ev_ret {st : St} {Q : Exit → St → Prop} (h : Q .ret st) : Ev E .ret st Q := ⟨1, by simpa [evCode] using h⟩
theorem ev_exit {st : St} {Q : Exit → St → Prop} {id : Nat} (h : Q (.exit id) st) : Ev E (.exit id) st Q := ⟨1, by simpa [evCode] using h⟩

theorem ev_bind {c : Code} {st : St} {K : Exit → St → Nat → Prop} (hK : ∀ e st m m', m ≤ m' → K e st m → K e st m') (h : Ev E c st fun e st => ∃ m, K e st m) : ∃ n, ∀ n', n ≤ n' → evCode PropAns E n' c st fun e st => K e st n' := by
  obtain ⟨n, h⟩ := h
  obtain ⟨m, h⟩ := evCode_chain n c st (fun m e st => K e st m) (fun m m' hmm e st => hK e st m m' hmm) h
  exact ⟨max n m, fun n' hn => evCode_mono n n' (by omega) _ _ _ _ (fun e st => hK e st m n' (by omega)) h⟩

theorem ev_seq {a b : Code} {st : St} {Q : Exit → St → Prop} (h : Ev E a st (Norm (fun st => Ev E b st Q) Q)) : Ev E (.seq a b) st Q := by
  obtain ⟨n, h⟩ := ev_bind (K := fun e st m => Norm (fun st' => evCode PropAns E m b st' Q) Q e st) (fun e st m m' hmm h => by
    cases e with
    | normal => exact evCode_mono m m' hmm _ _ _ _ (fun _ _ h => h) h
    | _ => exact h) (h.mono fun e st h => by
      cases e with
      | normal => exact h
      | _ => exact ⟨0, h⟩)
  exact ⟨n + 1, by simpa only [evCode] using h n (Nat.le_refl _)⟩

theorem ev_cond {c : Operand} {a b : Code} {st : St} {Q : Exit → St → Prop} {t : Bool} (hc : sval st.s c = .bool t) (h1 : t = true → Ev E a st Q) (h2 : t = false → Ev E b st Q) : Ev E (.cond c a b) st Q := by
  cases t with
  | true => obtain ⟨n, h⟩ := h1 rfl; exact ⟨n + 1, by simp only [evCode, hc]; exact h⟩
  | false => obtain ⟨n, h⟩ := h2 rfl; exact ⟨n + 1, by simp only [evCode, hc]; exact h⟩

theorem ev_block {id : Nat} {b : Code} {st : St} {Q : Exit → St → Prop} (h : Ev E b st (Blk id Q)) : Ev E (.block id b) st Q := by
  obtain ⟨n, h⟩ := h
  exact ⟨n + 1, by simp only [evCode]; exact h⟩

theorem ev_scope {b : Code} {st : St} {Q : Exit → St → Prop} (h : Ev E b st (Sco Q)) : Ev E (.scope b) st Q := by
  obtain ⟨n, h⟩ := h
  exact ⟨n + 1, by simp only [evCode]; exact h⟩

theorem ev_loop_step {b : Code} {st : St} {Q : Exit → St → Prop} (h : Ev E b st (Norm (fun st => Ev E (.loop b) st Q) Q)) : Ev E (.loop b) st Q := by
  obtain ⟨n, h⟩ := ev_bind (K := fun e st m => Norm (fun st' => evCode PropAns E m (.loop b) st' Q) Q e st) (fun e st m m' hmm h => by
    cases e with
    | normal => exact evCode_mono m m' hmm _ _ _ _ (fun _ _ h => h) h
    | _ => exact h) (h.mono fun e st h => by
      cases e with
      | normal => exact h
      | _ => exact ⟨0, h⟩)
  exact ⟨n + 1, by simpa only [evCode] using h n (Nat.le_refl _)⟩

/-- A loop: what stands at its head, and what falls with each round. -/
theorem ev_loop {α : Type} (mk : α → St) (I : α → Prop) (μ : α → Nat) {b : Code} {Q : Exit → St → Prop} (step : ∀ x, I x → Ev E b (mk x) (Norm (fun s => ∃ y, s = mk y ∧ I y ∧ μ y < μ x) Q)) : ∀ (x : α), I x → Ev E (.loop b) (mk x) Q := by
  have key : ∀ (n : Nat) (x : α), μ x = n → I x → Ev E (.loop b) (mk x) Q := by
    intro n
    induction n using Nat.strongRecOn with
    | _ n ih =>
      intro x hx hI
      refine ev_loop_step ((step x hI).mono fun e s h => ?_)
      cases e with
      | normal =>
        obtain ⟨y, rfl, hy, hlt⟩ := h
        exact ih (μ y) (by omega) y rfl hy
      | _ => exact h
  exact fun x hI => key _ x rfl hI

theorem ev_loop_at {α : Type} (mk : α → St) (I : α → Prop) (μ : α → Nat) {b : Code} {st : St} {Q : Exit → St → Prop} (x : α) (hx : st = mk x) (hI : I x) (step : ∀ x, I x → Ev E b (mk x) (Norm (fun s => ∃ y, s = mk y ∧ I y ∧ μ y < μ x) Q)) : Ev E (.loop b) st Q := by
  subst hx; exact ev_loop mk I μ step x hI

/-- A loop: the slots that do not matter under one name. -/
theorem ev_loop_g {α : Type} (mk : α → (Nat → Value) → St) (I : α → Prop) (μ : α → Nat) {b : Code} {st : St} {Q : Exit → St → Prop} (x : α) (hx : st = mk x (sget st.s)) (hI : I x)
    (step : ∀ x g, I x → Ev E b (mk x g) (Norm (fun s => ∃ y, s = mk y (sget s.s) ∧ I y ∧ μ y < μ x) Q)) : Ev E (.loop b) st Q :=
  ev_loop_at (α := α × (Nat → Value)) (fun p => mk p.1 p.2) (fun p => I p.1) (fun p => μ p.1) (x, sget st.s) hx hI fun p hp => (step p.1 p.2 hp).mono fun e s h => by
    cases e with
    | normal => obtain ⟨y, h1, h2, h3⟩ := h; exact ⟨(y, sget s.s), h1, h2, h3⟩
    | _ => exact h

/-- A loop: the memory apart. -/
theorem ev_loop_h {α : Type} (mk : α → (Nat → Value) → List Value) (I : α → AH → Prop) (μ : α → Nat) {b : Code} {s : List Value} {Q : Exit → St → Prop} (x : α) (hx : s = mk x (sget s)) (hI : I x H)
    (step : ∀ x H g, I x H → Ev E b ⟨mk x g, H⟩ (Norm (fun st => ∃ y, st.s = mk y (sget st.s) ∧ I y st.H ∧ μ y < μ x) Q)) : Ev E (.loop b) ⟨s, H⟩ Q :=
  ev_loop_g (α := α × AH) (fun p g => ⟨mk p.1 g, p.2⟩) (fun p => I p.1 p.2) (fun p => μ p.1) (x, H) (congrArg (fun s => (⟨s, H⟩ : St)) hx) hI fun p g hp => (step p.1 p.2 g hp).mono fun e st h => by
    cases e with
    | normal => obtain ⟨y, h1, h2, h3⟩ := h; exact ⟨(y, st.H), congrArg (fun s => (⟨s, st.H⟩ : St)) h1, h2, h3⟩
    | _ => exact h

theorem EvOps.region {ops : Array Oper} {id : Nat} {draw : Bool} {st : St} {Q : Exit → St → Prop} (hok : regOk draw ops.toList = true) (h : EvOps E ops.toList ops.toList st (Q .normal)) : Ev E (.region id ops draw) st Q := by
  obtain ⟨n, h⟩ := h
  refine ⟨n + 1, ?_⟩
  simp only [evCode, evRegion]
  cases draw with
  | false => exact h
  | true =>
    simp only [regOk, Bool.not_true, Bool.false_or, Bool.and_eq_true] at hok
    simp only [if_true, if_pos hok.1, if_pos hok.2]
    exact h

/-- A region, what is behind it under a name. -/
theorem ev_region {ops : Array Oper} {id : Nat} {draw : Bool} {st : St} {Q : Exit → St → Prop} (hok : regOk draw ops.toList = true) (h : ∀ K : St → Prop, (∀ st, Q .normal st → K st) → EvOps E ops.toList ops.toList st K) : Ev E (.region id ops draw) st Q :=
  EvOps.region hok (h _ fun _ h => h)

theorem ev_region_seq {ops : Array Oper} {id : Nat} {draw : Bool} {b : Code} {st : St} {Q : Exit → St → Prop} (hok : regOk draw ops.toList = true) (h : ∀ K : St → Prop, (∀ st, Ev E b st Q → K st) → EvOps E ops.toList ops.toList st K) : Ev E (.seq (.region id ops draw) b) st Q :=
  ev_seq (EvOps.region hok (h _ fun _ h => h))

theorem ev_region_plan {ops : Array Oper} {id : Nat} {st : St} {Q : Exit → St → Prop} (hok : regionOk ops.toList = true) (htx : textOk ops.toList = false) (p : Plan) (hp : planOf ops.toList ops.toList.length [] = p) (h : ∀ K : St → Prop, (∀ st, Q .normal st → K st) → EvPlan E ops.toList p [] st K) : Ev E (.region id ops true) st Q := by
  obtain ⟨n, h⟩ := h _ fun _ h => h
  refine ⟨n + 1, ?_⟩
  simp only [evCode, evRegion]
  simp only [if_true, if_pos hok, htx, Bool.false_eq_true, if_false, hp]
  exact h

/-! ### Operations one by one -/
def bindK {α : Type} (x : Option α) (k : α → Prop) : Prop := match x with
  | some v => k v
  | none => False
@[congr] theorem bindK_congr {α : Type} {x y : Option α} {k : α → Prop} (h : x = y) : bindK x k = bindK y k := by rw [h]
theorem bindK_some {α : Type} (v : α) (k : α → Prop) : bindK (some v) k = k v := propext Iff.rfl
def condK (b : Bool) (x y : Prop) : Prop := match b with
  | true => x
  | false => y
@[congr] theorem condK_congr {b b' : Bool} {x y : Prop} (h : b = b') : condK b x y = condK b' x y := by rw [h]
theorem condK_true (x y : Prop) : condK true x y = x := rfl
theorem condK_false (x y : Prop) : condK false x y = y := rfl

theorem EvCall.bind {f : FuncId} {args : List Value} {K : Value → AH → Nat → Prop} (hK : ∀ v H m m', m ≤ m' → K v H m → K v H m') (h : EvCall E f args H fun v H => ∃ m, K v H m) : ∃ n, ∀ n', n ≤ n' → evCall PropAns E n' f args H fun v H => K v H n' := by
  obtain ⟨n, h⟩ := h
  obtain ⟨m, h⟩ := evCallWith_chain (evCode_mono n n (Nat.le_refl _)) (evCode_chain n) f args H (fun m v H => K v H m) (fun m m' hmm v H => hK v H m m' hmm) h
  exact ⟨max n m, fun n' hn => evCall_le (n := n) (n' := n') (by omega) _ _ _ _ _ (fun v H => hK v H m n' (by omega)) h⟩

theorem evOps_nil {ops : List Oper} {st : St} {k : St → Prop} (h : k st) : EvOps E ops [] st k := ⟨0, h⟩
theorem evOps_op {ops rest : List Oper} {o : Oper} {st : St} {k : St → Prop} {v : Value} (hw : wantedA ops o st.s = true) (hv : evOp E o.op (sval st.s) st.H = some (v, H')) (h : EvOps E ops rest ⟨sputO st.s o.dst v, H'⟩ k) : EvOps E ops (o :: rest) st k := by
  obtain ⟨n, h⟩ := h
  refine ⟨n, ?_⟩
  unfold evOps
  rw [if_pos hw]
  unfold evOper
  split
  · rename_i f args tys heq
    rw [heq] at hv
    simp [evOp] at hv
  · rw [hv]; exact h
theorem evOps_not {ops rest : List Oper} {o : Oper} {st : St} {k : St → Prop} (hw : wantedA ops o st.s = false) (h : EvOps E ops rest ⟨sputO st.s o.dst undef, st.H⟩ k) : EvOps E ops (o :: rest) st k := by
  obtain ⟨n, h⟩ := h
  refine ⟨n, ?_⟩
  unfold evOps
  rw [if_neg (by rw [hw]; simp)]
  exact h
theorem evOps_call {ops rest : List Oper} {o : Oper} {st : St} {k : St → Prop} {f : Operand} {args : Array Operand} {tys : Array TypeId} {g : FuncId} {vs : List Value} (ho : o.op = .call ⟨.value f, args, tys⟩) (hw : wantedA ops o st.s = true) (hg : callOf st.s (.call ⟨.value f, args, tys⟩) = some (g, vs))
    (h : EvCall E g vs st.H fun v H' => EvOps E ops rest ⟨sputO st.s o.dst v, H'⟩ k) : EvOps E ops (o :: rest) st k := by
  obtain ⟨n, h⟩ := EvCall.bind (K := fun v H' m => evOps PropAns E (evCall PropAns E m) ops rest ⟨sputO st.s o.dst v, H'⟩ k) (fun v H' m m' hmm => evOps_mono (evCall_le hmm) (fun _ h => h) rest _) h
  refine ⟨n, ?_⟩
  unfold evOps
  rw [if_pos hw]
  unfold evOper
  rw [ho]
  simp only [hg]
  exact h n (Nat.le_refl _)

/-- A function's run. -/
theorem ev_call {f : FuncId} {fn : Func} {c : Code} {args : List Value} {rs : List ResultVar} {k : Value → AH → Prop} (hx : E.ext f = none) (hf : E.P.funcs[f]? = some fn) (hb : fn.body = some c) (hok : funcOk E fn = true) (hn : args.length ≤ fn.ntmps) (hr : fn.results.toList = rs)
    (h : Ev E c ⟨args ++ List.replicate (fn.ntmps - args.length) undef, H⟩ (Ret E rs k)) : EvCall E f args H k := by
  subst hr
  obtain ⟨n, h⟩ := h
  refine ⟨n, ?_⟩
  unfold evCall evCallWith
  simp only [hx, hf, hb]
  rw [if_pos ⟨hok, hn⟩]
  exact h

/-- A function that is not walked. -/
theorem ev_ext {f : FuncId} {g : List Value → AH → Option (Value × AH)} {args : List Value} {v : Value} {k : Value → AH → Prop} (hx : E.ext f = some g) (hg : g args H = some (v, H')) (h : k v H') : EvCall E f args H k := by
  refine ⟨0, ?_⟩
  unfold evCall evCallWith
  simp only [hx, hg]
  exact h

end Go.Proofs.Ytmjcfcbjccepnaa.Eng
