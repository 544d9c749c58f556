/-
  Rows that a function builds by appending.
-/
import Derived.Test.YtmjcfcbjccepnaaE18
namespace Go.Proofs.Ytmjcfcbjccepnaa.Eng
open Go Go.RowKit
set_option linter.unusedSimpArgs false
set_option linter.unusedVariables false
set_option linter.unusedSectionVars false

variable {E : Env} {H H' H0 H1 H2 : AH}

/-- A row built since H0: nothing yet, or an owned object of its own. -/
def Bld (E : Env) (H0 H : AH) (k : Nat) (v : Value) (css : List (List Value)) : Prop :=
  (∀ cs ∈ css, cs.length = k) ∧
  ((css = [] ∧ ∃ base, v = .slice base 0 0) ∨ ∃ r tail, v = .slice (some ⟨E.M + r, 0, none⟩) css.length INF ∧ H[r]? = some (.cells (css.flatten ++ tail) k true) ∧ H0.length ≤ r)

theorem Bld.nil {k : Nat} : Bld E H0 H k (.slice none 0 0) [] := And.intro (fun _ h => absurd h (by simp)) (Or.inl (And.intro rfl ⟨none, rfl⟩))

theorem Pre.set {r : Nat} {o : AObj} (h : Pre H0 H) (hr : H0.length ≤ r) : Pre H0 (H.set r o) := by
  obtain ⟨N, rfl⟩ := h
  refine ⟨N.set (r - H0.length) o, ?_⟩
  rw [List.set_append, if_neg (by omega)]

theorem Bld.pre {k : Nat} {v : Value} {css : List (List Value)} (h : Bld E H0 H k v css) (hp : Pre H H') : Bld E H0 H' k v css := by
  obtain ⟨hl, h | ⟨r, tail, hv, hr, h0⟩⟩ := h
  · exact ⟨hl, .inl h⟩
  · exact ⟨hl, .inr ⟨r, tail, hv, hp.get hr, h0⟩⟩

theorem flatten_len {css : List (List Value)} {k : Nat} (h : ∀ cs ∈ css, cs.length = k) : css.flatten.length = css.length * k := by
  induction css with
  | nil => simp
  | cons c cs ih =>
    rw [List.flatten_cons, List.length_append, ih fun c hc => h c (by simp [hc]), h c (by simp), List.length_cons, Nat.succ_mul]; omega

theorem flatten_get {css : List (List Value)} {k : Nat} (h : ∀ cs ∈ css, cs.length = k) {i : Nat} {cs : List Value} (hi : css[i]? = some cs) {j : Nat} (hj : j < k) : css.flatten[i * k + j]? = cs[j]? := by
  induction css generalizing i with
  | nil => simp at hi
  | cons c r ih =>
    have hc := h c (by simp)
    rw [List.flatten_cons]
    cases i with
    | zero =>
      simp at hi; subst hi
      rw [Nat.zero_mul, Nat.zero_add, List.getElem?_append_left (by omega)]
    | succ i =>
      have e : (i + 1) * k + j = c.length + (i * k + j) := by rw [hc, Nat.succ_mul]; omega
      rw [e, List.getElem?_append_right (by omega)]
      simp only [Nat.add_sub_cancel_left]
      exact ih (fun c hc => h c (by simp [hc])) (by simpa using hi)

theorem ldc_of_get {a : Addr} : ∀ (n i : Nat) (vs : List Value), vs.length = n → (∀ j v, vs[j]? = some v → ld E H (a.add (i + j)) = some v) → ldc E H a i n = some vs
  | 0, i, vs, hl, h => by cases vs <;> simp_all [ldc]
  | n + 1, i, vs, hl, h => by
    cases vs with
    | nil => simp at hl
    | cons v vs =>
      have h0 := h 0 v (by simp)
      have := ldc_of_get n (i + 1) vs (by simpa using hl) (fun j u hj => by have := h (j + 1) u (by simpa using hj); rwa [show i + (j + 1) = i + 1 + j by omega] at this)
      simp only [ldc]
      rw [Nat.add_zero] at h0
      simp [h0, this]

theorem Bld.rd {k : Nat} {v : Value} {css : List (List Value)} (h : Bld E H0 H k v css) : Rd E H k v css := by
  obtain ⟨hl, ⟨rfl, b, rfl⟩ | ⟨r, tail, rfl, hr, _⟩⟩ := h
  · exact ⟨b, 0, rfl, fun i cs hi => by simp at hi⟩
  · refine ⟨some ⟨E.M + r, 0, none⟩, INF, rfl, fun i cs hi => ⟨_, rfl, ?_⟩⟩
    have hcl : cs.length = k := hl cs (List.mem_of_getElem? hi)
    refine ldc_of_get k 0 cs hcl fun j u hj => ?_
    have hjk : j < k := by have := (List.getElem?_eq_some_iff.1 hj).1; omega
    have hg := flatten_get hl hi hjk
    rw [hj] at hg
    rw [add_lit, add_lit, ld_new, hr, ldO_cells, Nat.zero_add, Nat.zero_add, List.getElem?_append_left (List.getElem?_eq_some_iff.1 hg).1]
    exact hg

/-- What an appending leaves of the rest. -/
def Rest (E : Env) (v : Value) (H H2 : AH) : Prop := ∀ q o, H[q]? = some o → (∀ off n c, v ≠ .slice (some ⟨E.M + q, off, none⟩) n c) → H2[q]? = some o

theorem ldc_get {a : Addr} : ∀ (n i : Nat) (vs : List Value), ldc E H a i n = some vs → vs.length = n ∧ ∀ j v, vs[j]? = some v → ld E H (a.add (i + j)) = some v
  | 0, i, vs, h => by simp only [ldc, Option.some.injEq] at h; subst h; exact ⟨rfl, fun j v hj => by simp at hj⟩
  | n + 1, i, vs, h => by
    simp only [ldc] at h
    cases h1 : ld E H (a.add i) with
    | none => simp [h1] at h
    | some x =>
      cases h2 : ldc E H a (i + 1) n with
      | none => simp [h1, h2] at h
      | some r =>
        simp [h1, h2] at h
        subst h
        obtain ⟨hl, hr⟩ := ldc_get n (i + 1) r h2
        refine ⟨by simp [hl], fun j v hj => ?_⟩
        cases j with
        | zero => simp at hj; subst hj; simpa using h1
        | succ j => have := hr j v (by simpa using hj); rwa [show i + 1 + j = i + (j + 1) by omega] at this

theorem rd_flat {a : Addr} {k : Nat} {news : List (List Value)} (hk : ∀ cs ∈ news, cs.length = k) (h : ∀ i cs, news[i]? = some cs → ldc E H (a.add (i * k)) 0 k = some cs) : ldc E H a 0 (news.length * k) = some news.flatten := by
  refine ldc_of_get _ 0 _ (flatten_len hk) fun j v hj => ?_
  rw [Nat.zero_add]
  have hjl : j < news.length * k := by rw [← flatten_len hk]; exact (List.getElem?_eq_some_iff.1 hj).1
  have hk0 : 0 < k := Nat.pos_of_ne_zero fun e => by subst e; simp at hjl
  have hi : j / k < news.length := (Nat.div_lt_iff_lt_mul hk0).2 hjl
  have hr : j % k < k := Nat.mod_lt _ hk0
  have e : j / k * k + j % k = j := by rw [Nat.mul_comm]; exact Nat.div_add_mod j k
  have hg := flatten_get hk (show news[j / k]? = some news[j / k] by simp [hi]) hr
  rw [e, hj] at hg
  have := (ldc_get k 0 _ (h (j / k) _ (by simp [hi]))).2 (j % k) v hg.symm
  rwa [addr_add_add, Nat.zero_add, e] at this

theorem append_rd {sT xT e : TypeId} {k by_ : Nat} {z : Value} (hu : E.P.underlying sT = some (.slice e)) (hx : notInt (E.P.underlying xT) = true) (hs : sizeT E e = some k) (hb : bytesT E e = some by_) (hz : zeroT E e = some z) (hzk : z.cells.size = k)
    {v x : Value} {css news : List (List Value)} (h : Bld E H0 H1 k v css) (hp : Pre H0 H1) (hr : Rd E H1 k x news) (hk : ∀ cs ∈ news, cs.length = k) (h1 : news.flatten.all Value.oneCell' = true) (hsz : (css.length + news.length) * by_ ≤ 140737488355328) (hby : 0 < by_) :
    ∃ v' H2, evAppend E #[sT, xT] [v, x] H1 = some (v', H2) ∧ Bld E H0 H2 k v' (css ++ news) ∧ Pre H0 H2 ∧ Rest E v H1 H2 := by
  obtain ⟨xb, xc, rfl, hr⟩ := hr
  have hfirst : firstCellsA E H1 k news.length (.slice xb news.length xc) = some news.flatten := by
    cases xb with
    | none =>
      have : news = [] := by
        cases news with
        | nil => rfl
        | cons c r => obtain ⟨a, ha, _⟩ := hr 0 c (by simp); cases ha
      subst this; rfl
    | some a =>
      refine rd_flat hk fun i cs hi => ?_
      obtain ⟨a', ha, hl⟩ := hr i cs hi
      cases ha; exact hl
  have hlen : (css.length + news.length) ≤ 140737488355328 := Nat.le_trans (Nat.le_mul_of_pos_right _ hby) hsz
  have hinf : INF = 18446744073709551616 := rfl
  have hcss := h.1
  have hnl := flatten_len hk
  have hall : ∀ c ∈ css ++ news, c.length = k := by
    intro c hc
    rcases List.mem_append.1 hc with hc | hc
    · exact hcss c hc
    · exact hk c hc
  have hout : ∀ {v' : Value} {H2 : AH} {n cap : Nat} {base : Option Addr}, v = .slice base n cap → n = css.length → appendA E k n cap news.length base news.flatten H1 = some (v', H2) → evAppend E #[sT, xT] [v, .slice xb news.length xc] H1 = some (v', H2) := by
    intro v' H2 n cap base hv hn ha
    subst hv hn
    simp only [evAppend, List.getElem?_toArray, List.getElem?_cons_zero, List.getElem?_cons_succ, hu, hx, if_true, hs, hb, hz, Option.bind_some, lenOfV, hfirst]
    rw [if_neg (by omega)]
    exact ha
  have same : news = [] → ∃ v' H2, evAppend E #[sT, xT] [v, .slice xb news.length xc] H1 = some (v', H2) ∧ Bld E H0 H2 k v' (css ++ news) ∧ Pre H0 H2 ∧ Rest E v H1 H2 := by
    intro e
    subst e
    refine ⟨v, H1, ?_, by rwa [List.append_nil], hp, fun q o hq _ => hq⟩
    obtain ⟨_, ⟨rfl, b, rfl⟩ | ⟨r, tail, rfl, hr, hr0⟩⟩ := h
    · refine hout rfl rfl ?_
      cases b <;> simp [appendA]
    · refine hout rfl rfl ?_
      simp only [appendA]
      rw [if_neg (by simp only [List.length_nil, Nat.add_zero] at hlen; omega), if_pos (by simp)]
  by_cases hne : news = []
  · exact same hne
  have hm : news.length ≠ 0 := fun e => hne (List.length_eq_zero_iff.1 e)
  obtain ⟨_, ⟨rfl, b, rfl⟩ | ⟨r, tail, rfl, hr, hr0⟩⟩ := h
  · refine ⟨.slice (some ⟨E.M + H1.length, 0, none⟩) news.length INF, H1 ++ [AObj.cells news.flatten k true], ?_, ⟨hall, .inr ⟨H1.length, [], by simp, by simp, hp.len⟩⟩, hp.trans (Pre.app _), fun q o hq _ => get_app_old hq⟩
    refine hout rfl rfl ?_
    cases b with
    | none =>
      simp only [appendA]
      rw [if_neg (by simp), if_neg hm]
      rfl
    | some a =>
      simp only [appendA]
      rw [if_neg (by simp), if_neg hm, if_neg (by simp [unkCap, hinf]), if_neg (by omega)]
      simp [ldc, newA]
  · have hrl : r < H1.length := (List.getElem?_eq_some_iff.1 hr).1
    have hrow : rowAt E H1 ⟨E.M + r, 0, none⟩ = some (css.flatten ++ tail, k) := by
      unfold rowAt
      rw [if_neg (by simp)]
      simp only [Nat.add_sub_cancel_left, hr]
    have hfl := flatten_len hcss
    refine ⟨.slice (some ⟨E.M + H1.length, 0, none⟩) (css.length + news.length) INF, H1.set r AObj.dead ++ [AObj.cells (css ++ news).flatten k true], ?_, ⟨hall, .inr ⟨H1.length, [], by simp, ?_, hp.len⟩⟩, (hp.set hr0).trans (Pre.app _), ?_⟩
    · refine hout rfl rfl ?_
      simp only [appendA]
      rw [if_neg (by omega), if_neg hm, if_pos (by simp [unkCap])]
      simp only [hrow]
      rw [if_neg (by rw [h1]; simp [hfl])]
      have ht : (css.flatten ++ tail).take (css.length * k) = css.flatten := by rw [← hfl]; exact List.take_left ..
      simp [newA, kill, ht]
    · rw [List.getElem?_append_right (by simp)]; simp
    · intro q o hq hne
      have hqr : r ≠ q := by rintro rfl; exact hne _ _ _ rfl
      refine get_app_old ?_
      rw [List.getElem?_set_ne hqr]
      exact hq

theorem rd_new {k : Nat} {cs : List Value} (hcs : cs.length = k) : Rd E (H1 ++ [.cells cs k true]) k (.slice (some ⟨E.M + H1.length, 0, none⟩) 1 1) [cs] := by
  refine ⟨_, 1, rfl, fun i c hi => ⟨_, rfl, ?_⟩⟩
  cases i with
  | succ i => simp at hi
  | zero =>
    simp at hi; subst hi
    refine ldc_of_get k 0 cs hcs fun j u hj => ?_
    rw [add_lit, add_lit, ld_new, get_app_new0]
    simp only [Nat.zero_mul, Nat.zero_add]
    exact hj

theorem append_one {sT xT e : TypeId} {k by_ : Nat} {z : Value} (hu : E.P.underlying sT = some (.slice e)) (hx : notInt (E.P.underlying xT) = true) (hs : sizeT E e = some k) (hb : bytesT E e = some by_) (hz : zeroT E e = some z) (hzk : z.cells.size = k)
    {v : Value} {css : List (List Value)} {cs : List Value} (h : Bld E H0 H1 k v css) (hp : Pre H0 H1) (hcs : cs.length = k) (h1 : cs.all Value.oneCell' = true) (hsz : (css.length + 1) * by_ ≤ 140737488355328) (hby : 0 < by_) :
    ∃ v' H2, evAppend E #[sT, xT] [v, .slice (some ⟨E.M + H1.length, 0, none⟩) 1 1] (H1 ++ [.cells cs k true]) = some (v', H2) ∧ Bld E H0 H2 k v' (css ++ [cs]) ∧ Pre H0 H2 ∧ Rest E v H1 H2 := by
  have hB : Bld E H0 (H1 ++ [.cells cs k true]) k v css := by
    obtain ⟨hl, h | ⟨r, tail, hv, hr, h0⟩⟩ := h
    · exact ⟨hl, .inl h⟩
    · exact ⟨hl, .inr ⟨r, tail, hv, get_app_old hr, h0⟩⟩
  obtain ⟨v', H2, ha, hb2, hp2, hr2⟩ := append_rd hu hx hs hb hz hzk hB (hp.trans (Pre.app _)) (rd_new hcs) (by simp [hcs]) (by simpa using h1) (by simpa using hsz) hby
  exact ⟨v', H2, ha, hb2, hp2, fun q o hq hne => hr2 q o (get_app_old hq) hne⟩

end Go.Proofs.Ytmjcfcbjccepnaa.Eng
