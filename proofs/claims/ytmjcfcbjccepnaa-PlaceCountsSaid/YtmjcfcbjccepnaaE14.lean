/-
  What a region that draws its order comes to, continued: where the order of the text stands for every order.
-/
import Derived.Test.YtmjcfcbjccepnaaE13
namespace Go.Proofs.Ytmjcfcbjccepnaa.Eng
open Go Go.RowKit
set_option linter.unusedSimpArgs false
set_option linter.unusedVariables false
set_option linter.unusedSectionVars false

variable {E : Env} {H H' H2 : AH}

theorem bindsOf_lt {ops : List Oper} (h : regionOk ops = true) {j : Nat} {o : Oper} (ho : ops[j]? = some o) {i : Nat} (hi : i ∈ bindsOf o) : i < j := by
  unfold regionOk at h
  have hjl : j < ops.length := (List.getElem?_eq_some_iff.1 ho).1
  have h1 := List.all_eq_true.1 h j (List.mem_range.2 hjl)
  rw [ho] at h1
  simp only [Bool.and_eq_true] at h1
  simpa using List.all_eq_true.1 h1.1.1 i hi

structure Upto (ops : Array Oper) (j : Nat) (listed : Array Bool) : Prop where
  size : listed.size = ops.size
  get : ∀ i, i < ops.size → listed.getD i false = decide (i < j) ∧ listed.getD i true = decide (i < j)

theorem Upto.set {ops : Array Oper} {j : Nat} {listed : Array Bool} (h : Upto ops j listed) (hj : j < ops.size) : Upto ops (j + 1) (listed.setIfInBounds j true) := by
  refine ⟨by simp [h.size], fun i hi => ?_⟩
  by_cases e : j = i
  · subst e; simp [h.size, hi]
  · rw [getD_set_ne true e, getD_set_ne false e]
    have := h.get i hi
    rw [this.1, this.2]
    constructor <;> · congr 1; apply propext; omega

theorem Upto.closed {ops : Array Oper} (hok : regionOk ops.toList = true) {j : Nat} {listed : Array Bool} (h : Upto ops j listed) : Closed ops listed := by
  intro q o ho hq i hi
  have hqs := (Array.getElem?_eq_some_iff.1 ho).1
  have hlt := bindsOf_lt hok (show ops.toList[q]? = some o by simpa using ho) hi
  rw [(h.get q hqs).1] at hq
  rw [(h.get i (by omega)).1]
  have := of_decide_eq_true hq
  exact decide_eq_true (by omega)

theorem Upto.ready {ops : Array Oper} (hok : regionOk ops.toList = true) {j : Nat} {listed : Array Bool} (h : Upto ops j listed) {i : Nat} : i ∈ Region.ready .any ops listed ↔ j ≤ i ∧ ∃ o, ops[i]? = some o ∧ ∀ e ∈ bindsOf o, e < j := by
  rw [mem_ready]
  constructor
  · rintro ⟨h0, o, ho, hall⟩
    have his := (Array.getElem?_eq_some_iff.1 ho).1
    rw [(h.get i his).2] at h0
    refine ⟨by have := of_decide_eq_false h0; omega, o, ho, fun e he => ?_⟩
    obtain ⟨x, hx, hb, rfl⟩ := mem_bindsOf.1 he
    have := bindsOf_lt hok (show ops.toList[i]? = some o by simpa using ho) he
    have h2 := hall x hx hb
    rw [(h.get x.on (by omega)).1] at h2
    exact of_decide_eq_true h2
  · rintro ⟨h0, o, ho, hall⟩
    have his := (Array.getElem?_eq_some_iff.1 ho).1
    refine ⟨by rw [(h.get i his).2]; exact decide_eq_false (by omega), o, ho, fun e he hb => ?_⟩
    have hm := mem_bindsOf.2 ⟨e, he, hb, rfl⟩
    have := bindsOf_lt hok (show ops.toList[i]? = some o by simpa using ho) hm
    rw [(h.get e.on (by omega)).1]
    exact decide_eq_true (hall _ hm)

theorem readsOf_reader {o : Op} {ρ : Operand → Value} (h : readsMem o = false) : readsOf o ρ = [] := by
  unfold readsOf readsMem at *
  split at h <;> first | (cases h; done) | skip
  rfl

def LogOk (ops : List Oper) (j : Nat) (log : Log) : Prop := ∀ x ∈ log, x.1 < j ∧ (x.2 ≠ [] → readerAt ops x.1 = true)

theorem textOk_any {call : CallK Prop} (hm : CallMono call) {ops : Array Oper} (hok : regionOk ops.toList = true) (htx : textOk ops.toList = true) {k : St → Prop} :
    ∀ (rest : List Oper) (j : Nat) (listed : Array Bool) (log : Log) (st : St), ops.toList.drop j = rest → Upto ops j listed → LogOk ops.toList j log → evOps PropAns E call ops.toList rest st k → evAny E call ops k rest.length listed log st
  | [], j, listed, log, st, hr, hu, hl, h => by
    refine ⟨?_, h⟩
    have hj : ops.size ≤ j := by simpa using List.drop_eq_nil_iff.1 hr
    cases hrd : Region.ready .any ops listed with
    | nil => rfl
    | cons i r =>
      obtain ⟨h1, o, ho, _⟩ := (hu.ready hok).1 (show i ∈ Region.ready .any ops listed by rw [hrd]; simp)
      have := (Array.getElem?_eq_some_iff.1 ho).1
      omega
  | o :: rest, j, listed, log, st, hr, hu, hl, h => by
    have hoi : ops[j]? = some o := by
      have : (ops.toList.drop j)[0]? = some o := by rw [hr]; rfl
      simpa using this
    have hol : ops.toList[j]? = some o := by simpa using hoi
    have hjs := (Array.getElem?_eq_some_iff.1 hoi).1
    have hr' : ops.toList.drop (j + 1) = rest := by rw [← List.drop_drop, hr]; rfl
    have hready : j ∈ Region.ready .any ops listed := (hu.ready hok).2 ⟨Nat.le_refl _, o, hoi, fun e he => bindsOf_lt hok hol he⟩
    have next := fun log st => textOk_any hm hok htx (k := k) rest (j + 1) (listed.setIfInBounds j true) log st hr' (hu.set hjs)
    have hl' : LogOk ops.toList (j + 1) log := fun x hx => ⟨by have := (hl x hx).1; omega, (hl x hx).2⟩
    have ht : (isQuiet o.op || (List.range ops.toList.length).all fun i => if i < j then !readerAt ops.toList i || before ops.toList i j else i == j || match ops.toList[i]? with
        | none => true
        | some oi => (bindsOf oi).any fun e => decide (j ≤ e)) = true := by
      have := List.all_eq_true.1 htx j (by simpa using hjs)
      rw [hol] at this
      exact this
    unfold evOps at h
    by_cases hq : isQuiet o.op = true
    · by_cases hw : wantedA ops.toList o st.s = true
      · rw [if_pos hw] at h
        unfold evOper at h
        split at h
        · rename_i f args tys heq; rw [heq] at hq; simp [isQuiet] at hq
        · split at h
          · rename_i v H' hev
            have := quiet_same hq hev
            subst this
            refine evAny_first hm hok _ listed log st _ _ (hu.closed hok) hready ⟨o, hol, hq, by rw [if_pos hw]; exact ⟨v, hev, rfl, rfl⟩⟩ (next _ _ ?_ h)
            intro x hx
            rcases List.mem_cons.1 hx with rfl | hx
            · refine ⟨by simp, fun hne => ?_⟩
              unfold readerAt
              rw [hol]
              simp only
              cases hrd : readsMem o.op with
              | true => rfl
              | false => exact (hne (readsOf_reader hrd)).elim
            · exact hl' x hx
          · exact h.elim
      · rw [if_neg hw] at h
        refine evAny_first hm hok _ listed log st _ _ (hu.closed hok) hready ⟨o, hol, hq, by rw [if_neg hw]; exact ⟨rfl, rfl⟩⟩ (next _ _ ?_ h)
        intro x hx
        rcases List.mem_cons.1 hx with rfl | hx
        · exact ⟨by simp, fun hne => (hne rfl).elim⟩
        · exact hl' x hx
    · have hq' : isQuiet o.op = false := by simpa using hq
      rw [hq', Bool.false_or] at ht
      have honly : ∀ i, i ∈ Region.ready .any ops listed → i = j := by
        intro i hi
        obtain ⟨h1, oi, h2, h3⟩ := (hu.ready hok).1 hi
        have his := (Array.getElem?_eq_some_iff.1 h2).1
        have := List.all_eq_true.1 ht i (by simpa using his)
        rw [if_neg (by omega), show ops.toList[i]? = some oi by simpa using h2] at this
        simp only [Bool.or_eq_true, beq_iff_eq] at this
        rcases this with h4 | h4
        · exact h4
        · obtain ⟨e, he, hd⟩ := List.any_eq_true.1 h4
          have := h3 e he
          have := of_decide_eq_true hd
          omega
      have hfree : FreeOf ops.toList log j none := by
        intro x hx hb b hb2
        obtain ⟨h1, h2⟩ := hl x hx
        have hne : x.2 ≠ [] := by intro e; rw [e] at hb2; cases hb2
        have := List.all_eq_true.1 ht x.1 (by simp; omega)
        rw [if_pos h1, h2 hne, hb] at this
        simp at this
      refine ⟨fun h0 => (by rw [h0] at hready; cases hready), fun i hi => ?_⟩
      obtain rfl := honly i hi
      unfold evStep
      rw [hol]
      simp only
      split
      · rename_i hw
        rw [if_pos hw] at h
        unfold evOper at h
        split at h
        · rename_i f args tys heq
          split at h
          · rename_i g vs hg
            exact .inr (.inl ⟨g, vs, by rw [heq]; exact hg, hfree, hm _ _ _ _ _ (fun v H' hk => next _ _ hl' hk) h⟩)
          · exact h.elim
        · rename_i hne
          split at h
          · rename_i v H' hev
            refine .inr (.inr (.inr ⟨?_, v, H', hev, .inl hfree, next _ _ hl' h⟩))
            unfold callOf
            split
            · rename_i f args tys heq; exact (hne f args tys heq).elim
            · rfl
          · exact h.elim
      · rename_i hw
        rw [if_neg hw] at h
        exact next _ _ hl' h

end Go.Proofs.Ytmjcfcbjccepnaa.Eng
