/-
  Appending one, told in full; slices apart from objects.
-/
import Derived.Test.YtmjcfcbjccepnaaE23
namespace Go.Proofs.Ytmjcfcbjccepnaa.Eng
open Go Go.RowKit
set_option linter.unusedSimpArgs false
set_option linter.unusedVariables false
set_option linter.unusedSectionVars false

variable {E : Env} {H H' H0 H1 H2 : AH}

theorem append_new {sT xT e : TypeId} {k by_ : Nat} {z : Value} (hu : E.P.underlying sT = some (.slice e)) (hx : notInt (E.P.underlying xT) = true) (hs : sizeT E e = some k) (hb : bytesT E e = some by_) (hz : zeroT E e = some z) (hzk : z.cells.size = k)
    {v x : Value} {css news : List (List Value)} (h : Bld E H0 H1 k v css) (hp : Pre H0 H1) (hr : Rd E H1 k x news) (hk : ∀ cs ∈ news, cs.length = k) (h1 : news.flatten.all Value.oneCell' = true) (hsz : (css.length + news.length) * by_ ≤ 140737488355328) (hby : 0 < by_) (hne : news ≠ []) :
    ∃ H2, evAppend E #[sT, xT] [v, x] H1 = some (.slice (some ⟨E.M + H1.length, 0, none⟩) (css.length + news.length) INF, H2) ∧ Bld E H0 H2 k (.slice (some ⟨E.M + H1.length, 0, none⟩) (css.length + news.length) INF) (css ++ news) ∧ Pre H0 H2 ∧ Rest E v H1 H2 ∧ H2.length = H1.length + 1 := by
  obtain ⟨xb, xc, rfl, hr⟩ := hr
  have hfirst : firstCellsA E H1 k news.length (.slice xb news.length xc) = some news.flatten := by
    cases xb with
    | none =>
      have : news = [] := by
        cases news with
        | nil => rfl
        | cons c r => obtain ⟨a, ha, _⟩ := hr 0 c (by simp); cases ha
      subst this; rfl
    | some a =>
      refine rd_flat hk fun i cs hi => ?_
      obtain ⟨a', ha, hl⟩ := hr i cs hi
      cases ha; exact hl
  have hlen : (css.length + news.length) ≤ 140737488355328 := Nat.le_trans (Nat.le_mul_of_pos_right _ hby) hsz
  have hinf : INF = 18446744073709551616 := rfl
  have hcss := h.1
  have hnl := flatten_len hk
  have hall : ∀ c ∈ css ++ news, c.length = k := by
    intro c hc
    rcases List.mem_append.1 hc with hc | hc
    · exact hcss c hc
    · exact hk c hc
  have hout : ∀ {v' : Value} {H2 : AH} {n cap : Nat} {base : Option Addr}, v = .slice base n cap → n = css.length → appendA E k n cap news.length base news.flatten H1 = some (v', H2) → evAppend E #[sT, xT] [v, .slice xb news.length xc] H1 = some (v', H2) := by
    intro v' H2 n cap base hv hn ha
    subst hv hn
    simp only [evAppend, List.getElem?_toArray, List.getElem?_cons_zero, List.getElem?_cons_succ, hu, hx, if_true, hs, hb, hz, Option.bind_some, lenOfV, hfirst]
    rw [if_neg (by omega)]
    exact ha
  have hm : news.length ≠ 0 := fun e => hne (List.length_eq_zero_iff.1 e)
  obtain ⟨_, ⟨rfl, b, rfl⟩ | ⟨r, tail, rfl, hr, hr0⟩⟩ := h
  · refine ⟨H1 ++ [AObj.cells news.flatten k true], ?_, ⟨hall, .inr ⟨H1.length, [], by simp, by simp, hp.len⟩⟩, hp.trans (Pre.app _), fun q o hq _ => get_app_old hq, by simp⟩
    simp only [List.length_nil, Nat.zero_add]
    refine hout rfl rfl ?_
    cases b with
    | none =>
      simp only [appendA]
      rw [if_neg (by simp), if_neg hm]
      rfl
    | some a =>
      simp only [appendA]
      rw [if_neg (by simp), if_neg hm, if_neg (by simp [unkCap, hinf]), if_neg (by omega)]
      simp [ldc, newA]
  · have hrl : r < H1.length := (List.getElem?_eq_some_iff.1 hr).1
    have hrow : rowAt E H1 ⟨E.M + r, 0, none⟩ = some (css.flatten ++ tail, k) := by
      unfold rowAt
      rw [if_neg (by simp)]
      simp only [Nat.add_sub_cancel_left, hr]
    have hfl := flatten_len hcss
    refine ⟨H1.set r AObj.dead ++ [AObj.cells (css ++ news).flatten k true], ?_, ⟨hall, .inr ⟨H1.length, [], by simp, ?_, hp.len⟩⟩, (hp.set hr0).trans (Pre.app _), ?_, by simp⟩
    · refine hout rfl rfl ?_
      simp only [appendA]
      rw [if_neg (by omega), if_neg hm, if_pos (by simp [unkCap])]
      simp only [hrow]
      rw [if_neg (by rw [h1]; simp [hfl])]
      have ht : (css.flatten ++ tail).take (css.length * k) = css.flatten := by rw [← hfl]; exact List.take_left ..
      simp [newA, kill, ht]
    · rw [List.getElem?_append_right (by simp)]; simp
    · intro q o hq hne
      have hqr : r ≠ q := by rintro rfl; exact hne _ _ _ rfl
      refine get_app_old ?_
      rw [List.getElem?_set_ne hqr]
      exact hq


theorem rd_at {k q : Nat} {cs : List Value} (hcs : cs.length = k) (h : H1[q]? = some (.cells cs k true)) : Rd E H1 k (.slice (some ⟨E.M + q, 0, none⟩) 1 1) [cs] := by
  refine ⟨_, 1, rfl, fun i c hi => ⟨_, rfl, ?_⟩⟩
  cases i with
  | succ i => simp at hi
  | zero =>
    simp at hi; subst hi
    refine ldc_of_get k 0 cs hcs fun j u hj => ?_
    rw [add_lit, add_lit, ld_new, h]
    simp only [Nat.zero_mul, Nat.zero_add]
    exact hj

/-- One element more, out of an object of one element. -/
theorem append_el {α : Type} {e : Enc α} {sT xT t : TypeId} {by_ q : Nat} {z : Value} (hu : E.P.underlying sT = some (.slice t)) (hx : notInt (E.P.underlying xT) = true) (hs : sizeT E t = some e.k) (hb : bytesT E t = some by_) (hz : zeroT E t = some z) (hzk : z.cells.size = e.k)
    {v : Value} {l : List α} (x : α) (h : BldE e E H0 H1 v l) (hp : Pre H0 H1) (hq : H1[q]? = some (.cells (e.cs x) e.k true)) (hsz : (l.length + 1) * by_ ≤ 140737488355328) (hby : 0 < by_) :
    ∃ H2, evAppend E #[sT, xT] [v, .slice (some ⟨E.M + q, 0, none⟩) 1 1] H1 = some (.slice (some ⟨E.M + H1.length, 0, none⟩) (l.length + 1) INF, H2) ∧ BldE e E H0 H2 (.slice (some ⟨E.M + H1.length, 0, none⟩) (l.length + 1) INF) (l ++ [x]) ∧ Pre H0 H2 ∧ Rest E v H1 H2 ∧ H2.length = H1.length + 1 := by
  obtain ⟨H2, h1, h2, h3, h4, h5⟩ := append_new (news := [e.cs x]) hu hx hs hb hz hzk h hp (rd_at (e.len x) hq) (by simp [e.len]) (by simpa using e.one x) (by simpa using hsz) hby (by simp)
  rw [List.length_map] at h1 h2
  exact ⟨H2, h1, by unfold BldE; rw [List.map_append]; exact h2, h3, h4, h5⟩

theorem append_elx {α : Type} {e : Enc α} {sT xT t : TypeId} {by_ q : Nat} {z : Value} (hu : E.P.underlying sT = some (.slice t)) (hx : notInt (E.P.underlying xT) = true) (hs : sizeT E t = some e.k) (hb : bytesT E t = some by_) (hz : zeroT E t = some z) (hzk : z.cells.size = e.k)
    {v : Value} {l : List α} (x : α) (h : BldE e E H0 H1 v l) (hp : Pre H0 H1) (hq : H1[q]? = some (.cells (e.cs x) e.k true)) (hsz : (l.length + 1) * by_ ≤ 140737488355328) (hby : 0 < by_) :
    ∃ v' H2, evAppend E #[sT, xT] [v, .slice (some ⟨E.M + q, 0, none⟩) 1 1] H1 = some (v', H2) ∧ BldE e E H0 H2 v' (l ++ [x]) ∧ Pre H0 H2 ∧ Rest E v H1 H2 ∧ v' ≠ .slice none 0 0 := by
  obtain ⟨H2, h1, h2, h3, h4, _⟩ := append_el hu hx hs hb hz hzk x h hp hq hsz hby
  exact ⟨_, H2, h1, h2, h3, h4, by intro h; cases h⟩

/-- A slice that does not lie in block b. -/
def offB (v : Value) (b : Nat) : Bool := match v with
  | .slice (some a) _ _ => b != a.block
  | _ => true
theorem clearA_off {v : Value} (h : ∃ b n c, v = .slice b n c) {opens : List Nat} {log : Log} : clearA opens log v = (openR opens log).all (offB v) := by
  obtain ⟨b, n, c, rfl⟩ := h
  cases b with
  | none =>
    have : offB (.slice none n c) = fun _ => true := by funext x; rfl
    rw [clearA_none, this]; simp
  | some a => rw [clearA_some]; rfl
theorem Rest.get {v : Value} {q : Nat} {o : AObj} (h : Rest E v H H2) (hq : H[q]? = some o) (ho : offB v (E.M + q) = true) : H2[q]? = some o :=
  h q o hq fun off n c e => by subst e; simp [offB] at ho
theorem ld_block {a : Addr} {v : Value} (h : ld E H a = some v) : a.block < E.M + H.length := by
  unfold ld at h
  by_cases h1 : a.block < E.M
  · omega
  · rw [if_neg h1] at h
    by_cases h2 : a.spot.isSome = true
    · rw [if_pos h2] at h; cases h
    · rw [if_neg h2] at h
      cases h3 : H[a.block - E.M]? with
      | none => rw [h3] at h; cases h
      | some o =>
        have := (List.getElem?_eq_some_iff.1 h3).1
        omega
/-- A built slice lies in no block that was there before, and in none that is not yet there. -/
theorem Bld.off {k : Nat} {v : Value} {css : List (List Value)} (h : Bld E H0 H k v css) (hs : css = [] → v = .slice none 0 0) {b : Nat} (hb : b < E.M + H0.length ∨ E.M + H.length ≤ b) : offB v b = true := by
  rcases Bld.own h with ⟨h0, _⟩ | ⟨r, tail, rfl, hrow, hr0⟩
  · rw [hs h0]; rfl
  · have := (List.getElem?_eq_some_iff.1 hrow.1).1
    simp [offB, adr]; omega
theorem Bld.keep {k : Nat} {v w : Value} {css : List (List Value)} (h : Bld E H0 H k v css) (hr : Rest E w H H2) (ho : ∀ r, offB v (E.M + r) = false → offB w (E.M + r) = true) : Bld E H0 H2 k v css := by
  rcases Bld.own h with ⟨h0, b, hv⟩ | ⟨r, tail, rfl, hrow, hr0⟩
  · exact ⟨h.1, .inl ⟨h0, b, hv⟩⟩
  · exact ⟨h.1, .inr ⟨r, tail, rfl, hr.get hrow.1 (ho r (by simp [offB, adr])), hr0⟩⟩
theorem Bld.setne {k q : Nat} {v : Value} {css : List (List Value)} (h : Bld E H0 H k v css) (o : AObj) (ho : offB v (E.M + q) = true) : Bld E H0 (H.set q o) k v css := by
  rcases Bld.own h with ⟨h0, b, hv⟩ | ⟨r, tail, rfl, hrow, hr0⟩
  · exact ⟨h.1, .inl ⟨h0, b, hv⟩⟩
  · refine ⟨h.1, .inr ⟨r, tail, rfl, ?_, hr0⟩⟩
    have : q ≠ r := by simp [offB, adr] at ho; omega
    rw [List.getElem?_set_ne this]; exact hrow.1

theorem Row.rd_drop {r k : Nat} {css : List (List Value)} {tail : List Value} (h : Row H r k css tail) (i : Nat) {c : Nat} : Rd E H k (.slice (some ((adr E r).add (i * k))) (css.length - i) c) (css.drop i) := by
  refine ⟨_, _, by rw [List.length_drop], fun j cs hj => ⟨_, rfl, ?_⟩⟩
  rw [List.getElem?_drop] at hj
  obtain ⟨hl, he⟩ := List.getElem?_eq_some_iff.1 hj
  have := h.get (E := E) hl
  rw [addr_add_add, ← Nat.add_mul, this, he]
theorem Row.rd_take {r k : Nat} {css : List (List Value)} {tail : List Value} (h : Row H r k css tail) {i : Nat} (hi : i ≤ css.length) {c : Nat} : Rd E H k (.slice (some ((adr E r).add 0)) i c) (css.take i) := by
  refine ⟨_, _, by rw [List.length_take, Nat.min_eq_left hi], fun j cs hj => ⟨_, rfl, ?_⟩⟩
  obtain ⟨hl, he⟩ := List.getElem?_eq_some_iff.1 hj
  have hl' : j < css.length := by rw [List.length_take] at hl; omega
  have := h.get (E := E) hl'
  rw [addr_add_add, Nat.zero_add, this, ← he, List.getElem_take]
theorem ev_alt {p q : RP} {log : Log} {st : St} {k : St → Prop} (h1 : EvR E p log st k) (h2 : EvR E q log st k) : EvR E (.alt p q) log st k := ⟨h1, h2⟩

end Go.Proofs.Ytmjcfcbjccepnaa.Eng
