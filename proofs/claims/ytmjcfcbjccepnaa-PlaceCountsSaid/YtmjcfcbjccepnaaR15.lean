/-
  Blocks, walked.
-/
import Derived.Test.YtmjcfcbjccepnaaR14
namespace Go.Proofs.Ytmjcfcbjccepnaa.Eng
open Go Go.RowKit
set_option linter.unusedSimpArgs false
set_option linter.unusedVariables false
set_option pp.deepTerms false
set_option pp.deepTerms.threshold 3
attribute [local irreducible] Ev EvCall EvOps EvPlan EvR
variable {W : World} {M : Nat} {H H' H0 : AH}

/-- A number laid into rising ones, once. -/
def insB (b : Int) : List Int → List Int
  | [] => [b]
  | y :: r => if y < b then y :: insB b r else if y = b then y :: r else b :: y :: r
def blocksS (l : List (Int × Int)) : List Int := (l.map Prod.fst).foldl (fun out b => insB b out) []

theorem insB_at {b : Int} : ∀ {out : List Int} {k : Nat}, k ≤ out.length → (∀ j (h : j < out.length), j < k → out[j] < b) → (∀ h : k < out.length, ¬ out[k] < b) → insB b out = if out[k]? = some b then out else out.take k ++ b :: out.drop k
  | [], k, hk, h1, h2 => by cases k <;> simp_all [insB]
  | y :: r, 0, hk, h1, h2 => by
    have := h2 (by simp)
    simp only [List.getElem_cons_zero] at this
    unfold insB
    rw [if_neg this]
    by_cases h : y = b <;> simp [h]
  | y :: r, k + 1, hk, h1, h2 => by
    have h0 := h1 0 (by simp) (by omega)
    simp only [List.getElem_cons_zero] at h0
    have ih := insB_at (b := b) (out := r) (k := k) (by simpa using hk) (fun j h hj => by have := h1 (j + 1) (by simpa using h) (by omega); simpa using this) (fun h => by have := h2 (by simpa using h); simpa using this)
    unfold insB
    rw [if_pos h0, ih]
    simp only [List.getElem?_cons_succ, List.take_succ_cons, List.drop_succ_cons, List.cons_append]
    split <;> rfl
theorem insB_length (b : Int) : ∀ out : List Int, (insB b out).length ≤ out.length + 1
  | [] => by simp [insB]
  | y :: r => by
    unfold insB
    split
    · have := insB_length b r; simp only [List.length_cons]; omega
    · split <;> simp

theorem foldl_take_succ {α β : Type} (f : β → α → β) (z : β) (l : List α) (i : Nat) (h : i < l.length) : (l.take (i + 1)).foldl f z = f ((l.take i).foldl f z) l[i] := by
  rw [take_succ' l i h, List.foldl_append]; rfl

set_option maxHeartbeats 8000000 in
set_option maxRecDepth 100000 in
theorem Blocks_calls {v : Value} {l : List (Int × Int)} (hn : l.length < 1000000) (hv : RdP (En W M) H v l) {k : Value → AH → Prop}
    (hk : ∀ v' H', BldE (eI .i64) (En W M) H H' v' (blocksS l) → Pre H H' → k v' H') : EvCall (En W M) 16 [v] H k := by
  obtain ⟨base, c, rfl, hr⟩ := hv.open
  refine ev_call rfl Try.func16 rfl (by kernel_rfl) (of_decide_eq_true (by kernel_rfl)) (rs := [.tmp 2]) rfl ?_
  simp only [Try.ntmps16, List.length_cons, List.length_nil, Nat.reduceAdd, Nat.reduceSub, List.replicate_succ, List.replicate_zero, List.cons_append, List.nil_append]
  repeat (first | ((first | refine ev_reg_seq rfl (by decide +kernel) ?_ | refine ev_reg rfl (by decide +kernel) ?_); intro K L hL hK; simp (maxSteps := 3000000) only [zz0, zz1, zz2, zz3, zz4, zz5, zz6, zz7, zz8, zz9, zz10, zz11, zz12, zz13, zz14, zz15, zz16, zz17, zz18, zz19, zz20, zz21, zz22, zz23, zz24, zz25, zz26, zz27, zz28, zz29, zz30, zz31, zz32, zz33, zz34, zz35, sval, sputO, zz36, zz37, zz38, zz39, zz40, zz41, zz42, evOp, evBin, evInt, evUn, evIndexAddr, evBuiltin, evLen, newA, zz43, zz44, zz45, ldVar, zz46, zz47, zz48, zz49, zz50, zz51, zz52, zz53, zz54, zz55, zz56, zz57, zz58, callOf, evBuild, fillA, evBuildSlice, repCells, zz59, zz60, zz61, zz62, zz63, zz64, zz65, Nat.reduceLT, Nat.reduceGT, zz66, Nat.reduceMul, zz67, zz68, zz69, zz70, zz71, zz72, zz73, zz74, zz75, zz76, zz77, zz78, zz79, zz80, zz81, Nat.reduceAdd, zz82, overwrite, zz83, zz84, zz85, zz86, zz87, zz88, zz89, zz90, zz91, zz92, zz93, zz94, zz95, zz96, zz97, stO_app, zz98, zz99, zz100, zz101, zz102, zz103, zz104, zz105, zz106, zz107, zz108, Nat.reduceLeDiff, zz109, zz110, zz111, zz112, zz113, zz114, zz115, zz116, zz117, zz118, zz119, zz120, zz121, zz122, zz123, zz124, zz125, zz126, zz127, zz128, zz129, wantedA, hL, Try.underlying3, Try.underlying23, Try.underlying27, Try.underlying33, sz3, kb3, zr3, ag3, pk3, sz23, kb23, zr23, ag23, sz27, kb27, zr27, ag27, sz33, kb33, zr33, ag33, fa33x0, fl33x0, fa33x1, fl33x1, pl33, gd33, st33]; try (refine hK _ ?_; clear hK hL K L)) | refine ev_seq ?_ | refine ev_block ?_ | refine ev_skip ?_ | refine ev_exit ?_ | refine ev_ret ?_ | refine ev_label ?_ | refine ev_scope ?_ | refine norm_normal ?_ | refine norm_ret ?_ | refine norm_exit ?_ | refine blk_normal ?_ | refine blk_ret ?_ | refine blk_exit_eq ?_ | refine blk_exit_ne (by decide) ?_ | refine sco_normal ?_ | refine sco_ret ?_ | refine sco_exit ?_ | fail | fail)
  refine ev_loop_h (fun (x : Nat × Value × List Int) g => [.slice base l.length c, g 1, g 2, x.2.1, .int .i64 (x.1 : Nat), g 5, g 6, g 7, g 8, g 9, g 10, g 11, g 12, g 13, g 14, g 15, g 16, g 17, g 18, g 19, g 20, g 21, g 22, g 23, g 24, g 25, g 26, g 27, g 28, g 29, g 30, g 31, g 32, g 33, g 34, g 35, g 36, g 37, g 38, g 39, g 40, g 41, g 42, g 43, g 44, g 45, g 46, g 47, g 48, g 49, g 50, g 51, g 52, g 53, g 54, g 55, g 56, g 57, g 58, g 59, g 60, g 61, g 62, g 63, g 64, g 65])
    (fun x H1 => x.1 ≤ l.length ∧ Pre H H1 ∧ BldE (eI .i64) (En W M) H H1 x.2.1 x.2.2 ∧ x.2.2 = ((l.take x.1).map Prod.fst).foldl (fun out b => insB b out) [] ∧ x.2.2.length ≤ x.1 ∧ (x.2.2 = [] → x.2.1 = .slice none 0 0)) (fun x => l.length - x.1) (0, .slice none 0 0, []) rfl
    ⟨by simp, Pre.refl _, Bld.nil, rfl, by simp, fun _ => rfl⟩ ?_
  intro ⟨i, ov, out⟩ H1 g ⟨hi, hp, hB, hout, hol, hnil⟩
  simp only at hi hB hout hol hnil
  obtain ⟨ob, oc, rfl, hor⟩ := hB.rd.open
  repeat (first | ((first | refine ev_reg_seq rfl (by decide +kernel) ?_ | refine ev_reg rfl (by decide +kernel) ?_); intro K L hL hK; simp (maxSteps := 3000000) only [zz0, zz1, zz2, zz3, zz4, zz5, zz6, zz7, zz8, zz9, zz10, zz11, zz12, zz13, zz14, zz15, zz16, zz17, zz18, zz19, zz20, zz21, zz22, zz23, zz24, zz25, zz26, zz27, zz28, zz29, zz30, zz31, zz32, zz33, zz34, zz35, sval, sputO, zz36, zz37, zz38, zz39, zz40, zz41, zz42, evOp, evBin, evInt, evUn, evIndexAddr, evBuiltin, evLen, newA, zz43, zz44, zz45, ldVar, zz46, zz47, zz48, zz49, zz50, zz51, zz52, zz53, zz54, zz55, zz56, zz57, zz58, callOf, evBuild, fillA, evBuildSlice, repCells, zz59, zz60, zz61, zz62, zz63, zz64, zz65, Nat.reduceLT, Nat.reduceGT, zz66, Nat.reduceMul, zz67, zz68, zz69, zz70, zz71, zz72, zz73, zz74, zz75, zz76, zz77, zz78, zz79, zz80, zz81, Nat.reduceAdd, zz82, overwrite, zz83, zz84, zz85, zz86, zz87, zz88, zz89, zz90, zz91, zz92, zz93, zz94, zz95, zz96, zz97, stO_app, zz98, zz99, zz100, zz101, zz102, zz103, zz104, zz105, zz106, zz107, zz108, Nat.reduceLeDiff, zz109, zz110, zz111, zz112, zz113, zz114, zz115, zz116, zz117, zz118, zz119, zz120, zz121, zz122, zz123, zz124, zz125, zz126, zz127, zz128, zz129, wantedA, hL, Try.underlying3, Try.underlying23, Try.underlying27, Try.underlying33, sz3, kb3, zr3, ag3, pk3, sz23, kb23, zr23, ag23, sz27, kb27, zr27, ag27, sz33, kb33, zr33, ag33, fa33x0, fl33x0, fa33x1, fl33x1, pl33, gd33, st33]; try (refine hK _ ?_; clear hK hL K L)) | refine ev_seq ?_ | refine ev_block ?_ | refine ev_skip ?_ | refine ev_exit ?_ | refine ev_ret ?_ | refine ev_label ?_ | refine ev_scope ?_ | refine norm_normal ?_ | refine norm_ret ?_ | refine norm_exit ?_ | refine blk_normal ?_ | refine blk_ret ?_ | refine blk_exit_eq ?_ | refine blk_exit_ne (by decide) ?_ | refine sco_normal ?_ | refine sco_ret ?_ | refine sco_exit ?_ | fail | fail)
  refine ev_cond rfl (fun hc => ?_) (fun hc => ?_)
  · have hlt : i < l.length := by simpa using hc
    clear hc
    have h0 : (0 : Int) ≤ (i : Int) := Int.natCast_nonneg i
    have h1 : (i : Int) < (l.length : Int) := Int.ofNat_lt.2 hlt
    have hw : IntKind.i64.wrap ((i : Int) + 1) = ((i + 1 : Nat) : Int) := by rw [wrap_i64] <;> omega
    obtain ⟨a, rfl, hx⟩ := hr i hlt
    have hxx := hx
    have hx := (ldc_two.1 (hp.ldc hx)).1
    have hfold : ((l.take (i + 1)).map Prod.fst).foldl (fun out b => insB b out) [] = insB l[i].1 out := by
      rw [map_take_succ Prod.fst l i hlt, List.foldl_append, ← hout]; rfl
    have hsl : ∀ n, n ≤ out.length → ∃ w1 w2, (∀ Hx, Pre H1 Hx → evSlice (En W M) 23 (.slice ob out.length oc) none (some (.int .i64 (n : Int))) none Hx = some w1 ∧ RdE (eI .i64) (En W M) Hx w1 (out.take n)) ∧
        (∀ Hx, Pre H1 Hx → evSlice (En W M) 23 (.slice ob out.length oc) (some (.int .i64 (n : Int))) none none Hx = some w2 ∧ RdE (eI .i64) (En W M) Hx w2 (out.drop n)) := by
      intro n hno
      rcases Bld.own hB with ⟨he, _⟩ | ⟨r, tail, hv2, hrow, hr0⟩
      · have he : out = [] := by simpa using he
        have := hnil he
        subst he
        injection this with e1 _ e2
        subst e1 e2
        have hn0 : n = 0 := by simpa using hno
        subst hn0
        refine ⟨.slice none 0 0, .slice none 0 0, fun Hx hx => ⟨?_, RdE.nil⟩, fun Hx hx => ⟨?_, RdE.nil⟩⟩
        · simp [evSlice, Try.underlying23, sz3, widthAt, unkCap, bnds, bnd, moved, En_P]
        · simp [evSlice, Try.underlying23, sz3, widthAt, unkCap, bnds, bnd, moved, En_P]
      · rw [List.length_map] at hv2
        injection hv2 with e1 _ e2
        subst e1 e2
        have g0 : (0 : Int) ≤ (n : Int) := Int.natCast_nonneg n
        have g1 : (n : Int) ≤ (out.length : Int) := by omega
        refine ⟨.slice (some ((adr (En W M) r).add 0)) n INF, .slice (some ((adr (En W M) r).add (n * 1))) (out.length - n) INF, fun Hx hx => ⟨?_, ?_⟩, fun Hx hx => ⟨?_, ?_⟩⟩
        · have hwd := (hrow.pre hx).wd0 (E := En W M)
          have hwd : widthAt (En W M) Hx 1 (some (adr (En W M) r)) = true := hwd
          simp [evSlice, Try.underlying23, sz3, hwd, adr_unk0, bnds, bnd, moved, En_P, hno]
        · have := (hrow.pre hx).rd_take (E := En W M) (i := n) (c := INF) (by simpa using hno)
          rw [← List.map_take] at this; exact this
        · have hwd := (hrow.pre hx).wd0 (E := En W M)
          have hwd : widthAt (En W M) Hx 1 (some (adr (En W M) r)) = true := hwd
          simp [evSlice, Try.underlying23, sz3, hwd, adr_unk0, bnds, bnd, moved, En_P, hno]
        · have := (hrow.pre hx).rd_drop (E := En W M) n (c := INF)
          rw [← List.map_drop, List.length_map] at this; exact this
    repeat (first | ((first | refine ev_reg_seq rfl (by decide +kernel) ?_ | refine ev_reg rfl (by decide +kernel) ?_); intro K L hL hK; simp (maxSteps := 3000000) only [zz0, zz1, zz2, zz3, zz4, zz5, zz6, zz7, zz8, zz9, zz10, zz11, zz12, zz13, zz14, zz15, zz16, zz17, zz18, zz19, zz20, zz21, zz22, zz23, zz24, zz25, zz26, zz27, zz28, zz29, zz30, zz31, zz32, zz33, zz34, zz35, sval, sputO, zz36, zz37, zz38, zz39, zz40, zz41, zz42, evOp, evBin, evInt, evUn, evIndexAddr, evBuiltin, evLen, newA, zz43, zz44, zz45, ldVar, zz46, zz47, zz48, zz49, zz50, zz51, zz52, zz53, zz54, zz55, zz56, zz57, zz58, callOf, evBuild, fillA, evBuildSlice, repCells, zz59, zz60, zz61, zz62, zz63, zz64, zz65, Nat.reduceLT, Nat.reduceGT, zz66, Nat.reduceMul, zz67, zz68, zz69, zz70, zz71, zz72, zz73, zz74, zz75, zz76, zz77, zz78, zz79, zz80, zz81, Nat.reduceAdd, zz82, overwrite, zz83, zz84, zz85, zz86, zz87, zz88, zz89, zz90, zz91, zz92, zz93, zz94, zz95, zz96, zz97, stO_app, zz98, zz99, zz100, zz101, zz102, zz103, zz104, zz105, zz106, zz107, zz108, Nat.reduceLeDiff, zz109, zz110, zz111, zz112, zz113, zz114, zz115, zz116, zz117, zz118, zz119, zz120, zz121, zz122, zz123, zz124, zz125, zz126, zz127, zz128, zz129, wantedA, hL, Try.underlying3, Try.underlying23, Try.underlying27, Try.underlying33, sz3, kb3, zr3, ag3, pk3, sz23, kb23, zr23, ag23, sz27, kb27, zr27, ag27, sz33, kb33, zr33, ag33, fa33x0, fl33x0, fa33x1, fl33x1, pl33, gd33, st33]; try (refine hK _ ?_; clear hK hL K L)) | refine ev_seq ?_ | refine ev_block ?_ | refine ev_skip ?_ | refine ev_exit ?_ | refine ev_ret ?_ | refine ev_label ?_ | refine ev_scope ?_ | refine norm_normal ?_ | refine norm_ret ?_ | refine norm_exit ?_ | refine blk_normal ?_ | refine blk_ret ?_ | refine blk_exit_eq ?_ | refine blk_exit_ne (by decide) ?_ | refine sco_normal ?_ | refine sco_ret ?_ | refine sco_exit ?_ | fail | fail)
    refine ev_loop_h (fun (n : Nat) g => [.slice (some a) l.length c, g 1, g 2, .slice ob out.length oc, .int .i64 (i : Nat), .int .i64 (n : Nat), g 6, g 7, g 8, g 9, g 10, g 11, g 12, g 13, g 14, g 15, g 16, g 17, g 18, g 19, g 20, g 21, g 22, g 23, g 24, g 25, g 26, g 27, g 28, g 29, g 30, g 31, g 32, g 33, g 34, g 35, g 36, g 37, g 38, g 39, g 40, g 41, g 42, g 43, g 44, g 45, g 46, g 47, g 48, g 49, g 50, g 51, g 52, g 53, g 54, g 55, g 56, g 57, g 58, g 59, g 60, g 61, g 62, g 63, g 64, g 65])
      (fun n H2 => H2 = H1 ∧ n ≤ out.length ∧ ∀ j (h : j < out.length), j < n → out[j] < l[i].1) (fun n => out.length - n) 0 rfl ⟨rfl, by simp, fun j h hj => by omega⟩ ?_
    intro n H2 g ⟨e, hno, hlow⟩
    subst e
    have g0 : (0 : Int) ≤ (n : Int) := Int.natCast_nonneg n
    have hwn : IntKind.i64.wrap ((n : Int) + 1) = ((n + 1 : Nat) : Int) := by rw [wrap_i64] <;> omega
    obtain ⟨w1, w2, hw1, hw2⟩ := hsl n hno
    by_cases hnl : n < out.length
    · have g1 : (n : Int) < (out.length : Int) := Int.ofNat_lt.2 hnl
      have g1d : decide ((n : Int) < (out.length : Int)) = true := decide_eq_true g1
      obtain ⟨oa, rfl, hox⟩ := hor n hnl
      have hox : ldc (En W M) H2 (oa.add (n * 1)) 0 1 = some (Enc.cs (eI .i64) out[n]) := hox
      have hox := ld_of_ldc1 hox
      repeat (first | ((first | refine ev_reg_seq rfl (by decide +kernel) ?_ | refine ev_reg rfl (by decide +kernel) ?_); intro K L hL hK; simp (maxSteps := 3000000) only [zz0, zz1, zz2, zz3, zz4, zz5, zz6, zz7, zz8, zz9, zz10, zz11, zz12, zz13, zz14, zz15, zz16, zz17, zz18, zz19, zz20, zz21, zz22, zz23, zz24, zz25, zz26, zz27, zz28, zz29, zz30, zz31, zz32, zz33, zz34, zz35, sval, sputO, zz36, zz37, zz38, zz39, zz40, zz41, zz42, evOp, evBin, evInt, evUn, evIndexAddr, evBuiltin, evLen, newA, zz43, zz44, zz45, ldVar, zz46, zz47, zz48, zz49, zz50, zz51, zz52, zz53, zz54, zz55, zz56, zz57, zz58, callOf, evBuild, fillA, evBuildSlice, repCells, zz59, zz60, zz61, zz62, zz63, zz64, zz65, Nat.reduceLT, Nat.reduceGT, zz66, Nat.reduceMul, zz67, zz68, zz69, zz70, zz71, zz72, zz73, zz74, zz75, zz76, zz77, zz78, zz79, zz80, zz81, Nat.reduceAdd, zz82, overwrite, zz83, zz84, zz85, zz86, zz87, zz88, zz89, zz90, zz91, zz92, zz93, zz94, zz95, zz96, zz97, stO_app, zz98, zz99, zz100, zz101, zz102, zz103, zz104, zz105, zz106, zz107, zz108, Nat.reduceLeDiff, zz109, zz110, zz111, zz112, zz113, zz114, zz115, zz116, zz117, zz118, zz119, zz120, zz121, zz122, zz123, zz124, zz125, zz126, zz127, zz128, zz129, wantedA, hL, Try.underlying3, Try.underlying23, Try.underlying27, Try.underlying33, sz3, kb3, zr3, ag3, pk3, sz23, kb23, zr23, ag23, sz27, kb27, zr27, ag27, sz33, kb33, zr33, ag33, fa33x0, fl33x0, fa33x1, fl33x1, pl33, gd33, st33, g0, g1, g1d, hox, h0, h1, hx, decide_true]; try (refine hK _ ?_; clear hK hL K L)) | refine ev_seq ?_ | refine ev_block ?_ | refine ev_skip ?_ | refine ev_exit ?_ | refine ev_ret ?_ | refine ev_label ?_ | refine ev_scope ?_ | refine norm_normal ?_ | refine norm_ret ?_ | refine norm_exit ?_ | refine blk_normal ?_ | refine blk_ret ?_ | refine blk_exit_eq ?_ | refine blk_exit_ne (by decide) ?_ | refine sco_normal ?_ | refine sco_ret ?_ | refine sco_exit ?_ | fail | fail)
      refine ev_cond rfl (fun hc => ?_) (fun hc => ?_)
      · have hl : out[n] < l[i].1 := of_decide_eq_true hc
        repeat (first | ((first | refine ev_reg_seq rfl (by decide +kernel) ?_ | refine ev_reg rfl (by decide +kernel) ?_); intro K L hL hK; simp (maxSteps := 3000000) only [zz0, zz1, zz2, zz3, zz4, zz5, zz6, zz7, zz8, zz9, zz10, zz11, zz12, zz13, zz14, zz15, zz16, zz17, zz18, zz19, zz20, zz21, zz22, zz23, zz24, zz25, zz26, zz27, zz28, zz29, zz30, zz31, zz32, zz33, zz34, zz35, sval, sputO, zz36, zz37, zz38, zz39, zz40, zz41, zz42, evOp, evBin, evInt, evUn, evIndexAddr, evBuiltin, evLen, newA, zz43, zz44, zz45, ldVar, zz46, zz47, zz48, zz49, zz50, zz51, zz52, zz53, zz54, zz55, zz56, zz57, zz58, callOf, evBuild, fillA, evBuildSlice, repCells, zz59, zz60, zz61, zz62, zz63, zz64, zz65, Nat.reduceLT, Nat.reduceGT, zz66, Nat.reduceMul, zz67, zz68, zz69, zz70, zz71, zz72, zz73, zz74, zz75, zz76, zz77, zz78, zz79, zz80, zz81, Nat.reduceAdd, zz82, overwrite, zz83, zz84, zz85, zz86, zz87, zz88, zz89, zz90, zz91, zz92, zz93, zz94, zz95, zz96, zz97, stO_app, zz98, zz99, zz100, zz101, zz102, zz103, zz104, zz105, zz106, zz107, zz108, Nat.reduceLeDiff, zz109, zz110, zz111, zz112, zz113, zz114, zz115, zz116, zz117, zz118, zz119, zz120, zz121, zz122, zz123, zz124, zz125, zz126, zz127, zz128, zz129, wantedA, hL, Try.underlying3, Try.underlying23, Try.underlying27, Try.underlying33, sz3, kb3, zr3, ag3, pk3, sz23, kb23, zr23, ag23, sz27, kb27, zr27, ag27, sz33, kb33, zr33, ag33, fa33x0, fl33x0, fa33x1, fl33x1, pl33, gd33, st33, hwn]; try (refine hK _ ?_; clear hK hL K L)) | refine ev_seq ?_ | refine ev_block ?_ | refine ev_skip ?_ | refine ev_exit ?_ | refine ev_ret ?_ | refine ev_label ?_ | refine ev_scope ?_ | refine norm_normal ?_ | refine norm_ret ?_ | refine norm_exit ?_ | refine blk_normal ?_ | refine blk_ret ?_ | refine blk_exit_eq ?_ | refine blk_exit_ne (by decide) ?_ | refine sco_normal ?_ | refine sco_ret ?_ | refine sco_exit ?_ | fail | fail)
        refine ⟨n + 1, rfl, ⟨rfl, hnl, fun j h hj => ?_⟩, by omega⟩
        by_cases hjn : j = n
        · subst hjn; exact hl
        · exact hlow j h (by omega)
      · have hl : ¬ out[n] < l[i].1 := of_decide_eq_false hc
        have hins := insB_at (b := l[i].1) (out := out) (k := n) hno hlow (fun _ => hl)
        clear hc
        repeat (first | ((first | refine ev_reg_seq rfl (by decide +kernel) ?_ | refine ev_reg rfl (by decide +kernel) ?_); intro K L hL hK; simp (maxSteps := 3000000) only [zz0, zz1, zz2, zz3, zz4, zz5, zz6, zz7, zz8, zz9, zz10, zz11, zz12, zz13, zz14, zz15, zz16, zz17, zz18, zz19, zz20, zz21, zz22, zz23, zz24, zz25, zz26, zz27, zz28, zz29, zz30, zz31, zz32, zz33, zz34, zz35, sval, sputO, zz36, zz37, zz38, zz39, zz40, zz41, zz42, evOp, evBin, evInt, evUn, evIndexAddr, evBuiltin, evLen, newA, zz43, zz44, zz45, ldVar, zz46, zz47, zz48, zz49, zz50, zz51, zz52, zz53, zz54, zz55, zz56, zz57, zz58, callOf, evBuild, fillA, evBuildSlice, repCells, zz59, zz60, zz61, zz62, zz63, zz64, zz65, Nat.reduceLT, Nat.reduceGT, zz66, Nat.reduceMul, zz67, zz68, zz69, zz70, zz71, zz72, zz73, zz74, zz75, zz76, zz77, zz78, zz79, zz80, zz81, Nat.reduceAdd, zz82, overwrite, zz83, zz84, zz85, zz86, zz87, zz88, zz89, zz90, zz91, zz92, zz93, zz94, zz95, zz96, zz97, stO_app, zz98, zz99, zz100, zz101, zz102, zz103, zz104, zz105, zz106, zz107, zz108, Nat.reduceLeDiff, zz109, zz110, zz111, zz112, zz113, zz114, zz115, zz116, zz117, zz118, zz119, zz120, zz121, zz122, zz123, zz124, zz125, zz126, zz127, zz128, zz129, wantedA, hL, Try.underlying3, Try.underlying23, Try.underlying27, Try.underlying33, sz3, kb3, zr3, ag3, pk3, sz23, kb23, zr23, ag23, sz27, kb27, zr27, ag27, sz33, kb33, zr33, ag33, fa33x0, fl33x0, fa33x1, fl33x1, pl33, gd33, st33, g0, g1, g1d, hox, h0, h1, hx, decide_true]; try (refine hK _ ?_; clear hK hL K L)) | refine ev_seq ?_ | refine ev_block ?_ | refine ev_skip ?_ | refine ev_exit ?_ | refine ev_ret ?_ | refine ev_label ?_ | refine ev_scope ?_ | refine norm_normal ?_ | refine norm_ret ?_ | refine norm_exit ?_ | refine blk_normal ?_ | refine blk_ret ?_ | refine blk_exit_eq ?_ | refine blk_exit_ne (by decide) ?_ | refine sco_normal ?_ | refine sco_ret ?_ | refine sco_exit ?_ | fail | fail)
        refine ev_cond rfl (fun hc => ?_) (fun hc => ?_)
        · have hl2 : out[n] = l[i].1 := by simpa using hc
          repeat (first | ((first | refine ev_reg_seq rfl (by decide +kernel) ?_ | refine ev_reg rfl (by decide +kernel) ?_); intro K L hL hK; simp (maxSteps := 3000000) only [zz0, zz1, zz2, zz3, zz4, zz5, zz6, zz7, zz8, zz9, zz10, zz11, zz12, zz13, zz14, zz15, zz16, zz17, zz18, zz19, zz20, zz21, zz22, zz23, zz24, zz25, zz26, zz27, zz28, zz29, zz30, zz31, zz32, zz33, zz34, zz35, sval, sputO, zz36, zz37, zz38, zz39, zz40, zz41, zz42, evOp, evBin, evInt, evUn, evIndexAddr, evBuiltin, evLen, newA, zz43, zz44, zz45, ldVar, zz46, zz47, zz48, zz49, zz50, zz51, zz52, zz53, zz54, zz55, zz56, zz57, zz58, callOf, evBuild, fillA, evBuildSlice, repCells, zz59, zz60, zz61, zz62, zz63, zz64, zz65, Nat.reduceLT, Nat.reduceGT, zz66, Nat.reduceMul, zz67, zz68, zz69, zz70, zz71, zz72, zz73, zz74, zz75, zz76, zz77, zz78, zz79, zz80, zz81, Nat.reduceAdd, zz82, overwrite, zz83, zz84, zz85, zz86, zz87, zz88, zz89, zz90, zz91, zz92, zz93, zz94, zz95, zz96, zz97, stO_app, zz98, zz99, zz100, zz101, zz102, zz103, zz104, zz105, zz106, zz107, zz108, Nat.reduceLeDiff, zz109, zz110, zz111, zz112, zz113, zz114, zz115, zz116, zz117, zz118, zz119, zz120, zz121, zz122, zz123, zz124, zz125, zz126, zz127, zz128, zz129, wantedA, hL, Try.underlying3, Try.underlying23, Try.underlying27, Try.underlying33, sz3, kb3, zr3, ag3, pk3, sz23, kb23, zr23, ag23, sz27, kb27, zr27, ag27, sz33, kb33, zr33, ag33, fa33x0, fl33x0, fa33x1, fl33x1, pl33, gd33, st33, hw]; try (refine hK _ ?_; clear hK hL K L)) | refine ev_seq ?_ | refine ev_block ?_ | refine ev_skip ?_ | refine ev_exit ?_ | refine ev_ret ?_ | refine ev_label ?_ | refine ev_scope ?_ | refine norm_normal ?_ | refine norm_ret ?_ | refine norm_exit ?_ | refine blk_normal ?_ | refine blk_ret ?_ | refine blk_exit_eq ?_ | refine blk_exit_ne (by decide) ?_ | refine sco_normal ?_ | refine sco_ret ?_ | refine sco_exit ?_ | fail | fail)
          refine ⟨(i + 1, _, out), rfl, ⟨hlt, hp, hB, by rw [hfold, hins, if_pos (by rw [List.getElem?_eq_getElem hnl, hl2])], by simp only; omega, hnil⟩, by simp only; omega⟩
        · have hl2 : ¬ out[n] = l[i].1 := by simpa using hc
          clear hc
          have hinsn : insB l[i].1 out = out.take n ++ l[i].1 :: out.drop n := by rw [hins, if_neg (by rw [List.getElem?_eq_getElem hnl]; intro e; exact hl2 (Option.some.inj e))]
          obtain ⟨v1, H3, ha1, hB1, hP1, _⟩ := append_rd (E := En W M) (H0 := H2) (H1 := H2 ++ [AObj.cells [] 1 true]) (sT := 23) (xT := 23) (v := .slice (some ⟨M + H2.length, 0, none⟩) 0 0) (css := []) Try.underlying23 rfl sz3 kb3 zr3 rfl ⟨fun _ h => absurd h (by simp), .inl ⟨rfl, _, rfl⟩⟩ (Pre.app _) (hw1 _ (Pre.app _)).2 (Enc.lens (eI .i64) _) (Enc.alls (eI .i64) _) (by simp; omega) (by decide)
          obtain ⟨v2, H4, ha2, hB2, hP2, _⟩ := append_one (E := En W M) (sT := 23) (xT := 23) (H1 := H3) (cs := ie .i64 l[i].1) Try.underlying23 rfl sz3 kb3 zr3 rfl hB1 hP1 rfl rfl (by simp; omega) (by decide)
          obtain ⟨v3, H5, ha3, hB3, hP3, _⟩ := append_rd (E := En W M) (sT := 23) (xT := 23) Try.underlying23 rfl sz3 kb3 zr3 rfl hB2 hP2 (hw2 _ hP2).2 (Enc.lens (eI .i64) _) (Enc.alls (eI .i64) _) (by simp; omega) (by decide)
          have hs1 := (hw1 _ (Pre.app [AObj.cells [] 1 true])).1
          have hs2 := (hw2 _ hP2).1
          have hx3 := (ldc_two.1 ((hp.trans hP1).ldc hxx)).1
          simp only [En_M, ie] at ha1 ha2
          repeat (first | ((first | refine ev_reg_seq rfl (by decide +kernel) ?_ | refine ev_reg rfl (by decide +kernel) ?_); intro K L hL hK; simp (maxSteps := 3000000) only [zz0, zz1, zz2, zz3, zz4, zz5, zz6, zz7, zz8, zz9, zz10, zz11, zz12, zz13, zz14, zz15, zz16, zz17, zz18, zz19, zz20, zz21, zz22, zz23, zz24, zz25, zz26, zz27, zz28, zz29, zz30, zz31, zz32, zz33, zz34, zz35, sval, sputO, zz36, zz37, zz38, zz39, zz40, zz41, zz42, evOp, evBin, evInt, evUn, evIndexAddr, evBuiltin, evLen, newA, zz43, zz44, zz45, ldVar, zz46, zz47, zz48, zz49, zz50, zz51, zz52, zz53, zz54, zz55, zz56, zz57, zz58, callOf, evBuild, fillA, evBuildSlice, repCells, zz59, zz60, zz61, zz62, zz63, zz64, zz65, Nat.reduceLT, Nat.reduceGT, zz66, Nat.reduceMul, zz67, zz68, zz69, zz70, zz71, zz72, zz73, zz74, zz75, zz76, zz77, zz78, zz79, zz80, zz81, Nat.reduceAdd, zz82, overwrite, zz83, zz84, zz85, zz86, zz87, zz88, zz89, zz90, zz91, zz92, zz93, zz94, zz95, zz96, zz97, stO_app, zz98, zz99, zz100, zz101, zz102, zz103, zz104, zz105, zz106, zz107, zz108, Nat.reduceLeDiff, zz109, zz110, zz111, zz112, zz113, zz114, zz115, zz116, zz117, zz118, zz119, zz120, zz121, zz122, zz123, zz124, zz125, zz126, zz127, zz128, zz129, wantedA, hL, Try.underlying3, Try.underlying23, Try.underlying27, Try.underlying33, sz3, kb3, zr3, ag3, pk3, sz23, kb23, zr23, ag23, sz27, kb27, zr27, ag27, sz33, kb33, zr33, ag33, fa33x0, fl33x0, fa33x1, fl33x1, pl33, gd33, st33, hs1, hs2, ha1, ha2, ha3, h0, h1, hx3, hw, Option.map_none]; try (refine hK _ ?_; clear hK hL K L)) | refine ev_seq ?_ | refine ev_block ?_ | refine ev_skip ?_ | refine ev_exit ?_ | refine ev_ret ?_ | refine ev_label ?_ | refine ev_scope ?_ | refine norm_normal ?_ | refine norm_ret ?_ | refine norm_exit ?_ | refine blk_normal ?_ | refine blk_ret ?_ | refine blk_exit_eq ?_ | refine blk_exit_ne (by decide) ?_ | refine sco_normal ?_ | refine sco_ret ?_ | refine sco_exit ?_ | fail | fail)
          refine ⟨(i + 1, v3, insB l[i].1 out), rfl, ⟨hlt, hp.trans hP3, ?_, hfold.symm, by have := insB_length l[i].1 out; simp only; omega, fun h => ?_⟩, by simp only; omega⟩
          · have := hB3.base hp
            simp only
            rw [hinsn]
            have e : (out.take n ++ l[i].1 :: out.drop n).map (eI .i64).cs = [] ++ (out.take n).map (eI .i64).cs ++ [ie .i64 l[i].1] ++ (out.drop n).map (eI .i64).cs := by
              simp [List.map_append]; rfl
            unfold BldE
            rw [e]; exact this
          · simp only at h; rw [hinsn] at h; simp at h
    · have hge : out.length ≤ n := by omega
      have g1d : decide ((n : Int) < (out.length : Int)) = false := decide_eq_false (by omega)
      have hins := insB_at (b := l[i].1) (out := out) (k := n) hno hlow (fun h => absurd h (by omega))
      have hinsn : insB l[i].1 out = out.take n ++ l[i].1 :: out.drop n := by rw [hins, if_neg (by rw [List.getElem?_eq_none hge]; simp)]
      repeat (first | ((first | refine ev_reg_seq rfl (by decide +kernel) ?_ | refine ev_reg rfl (by decide +kernel) ?_); intro K L hL hK; simp (maxSteps := 3000000) only [zz0, zz1, zz2, zz3, zz4, zz5, zz6, zz7, zz8, zz9, zz10, zz11, zz12, zz13, zz14, zz15, zz16, zz17, zz18, zz19, zz20, zz21, zz22, zz23, zz24, zz25, zz26, zz27, zz28, zz29, zz30, zz31, zz32, zz33, zz34, zz35, sval, sputO, zz36, zz37, zz38, zz39, zz40, zz41, zz42, evOp, evBin, evInt, evUn, evIndexAddr, evBuiltin, evLen, newA, zz43, zz44, zz45, ldVar, zz46, zz47, zz48, zz49, zz50, zz51, zz52, zz53, zz54, zz55, zz56, zz57, zz58, callOf, evBuild, fillA, evBuildSlice, repCells, zz59, zz60, zz61, zz62, zz63, zz64, zz65, Nat.reduceLT, Nat.reduceGT, zz66, Nat.reduceMul, zz67, zz68, zz69, zz70, zz71, zz72, zz73, zz74, zz75, zz76, zz77, zz78, zz79, zz80, zz81, Nat.reduceAdd, zz82, overwrite, zz83, zz84, zz85, zz86, zz87, zz88, zz89, zz90, zz91, zz92, zz93, zz94, zz95, zz96, zz97, stO_app, zz98, zz99, zz100, zz101, zz102, zz103, zz104, zz105, zz106, zz107, zz108, Nat.reduceLeDiff, zz109, zz110, zz111, zz112, zz113, zz114, zz115, zz116, zz117, zz118, zz119, zz120, zz121, zz122, zz123, zz124, zz125, zz126, zz127, zz128, zz129, wantedA, hL, Try.underlying3, Try.underlying23, Try.underlying27, Try.underlying33, sz3, kb3, zr3, ag3, pk3, sz23, kb23, zr23, ag23, sz27, kb27, zr27, ag27, sz33, kb33, zr33, ag33, fa33x0, fl33x0, fa33x1, fl33x1, pl33, gd33, st33, g1d]; try (refine hK _ ?_; clear hK hL K L)) | refine ev_seq ?_ | refine ev_block ?_ | refine ev_skip ?_ | refine ev_exit ?_ | refine ev_ret ?_ | refine ev_label ?_ | refine ev_scope ?_ | refine norm_normal ?_ | refine norm_ret ?_ | refine norm_exit ?_ | refine blk_normal ?_ | refine blk_ret ?_ | refine blk_exit_eq ?_ | refine blk_exit_ne (by decide) ?_ | refine sco_normal ?_ | refine sco_ret ?_ | refine sco_exit ?_ | fail | fail)
      refine ev_cond rfl (fun hc => ?_) (fun hc => ?_)
      · cases hc
      · clear hc
        repeat (first | ((first | refine ev_reg_seq rfl (by decide +kernel) ?_ | refine ev_reg rfl (by decide +kernel) ?_); intro K L hL hK; simp (maxSteps := 3000000) only [zz0, zz1, zz2, zz3, zz4, zz5, zz6, zz7, zz8, zz9, zz10, zz11, zz12, zz13, zz14, zz15, zz16, zz17, zz18, zz19, zz20, zz21, zz22, zz23, zz24, zz25, zz26, zz27, zz28, zz29, zz30, zz31, zz32, zz33, zz34, zz35, sval, sputO, zz36, zz37, zz38, zz39, zz40, zz41, zz42, evOp, evBin, evInt, evUn, evIndexAddr, evBuiltin, evLen, newA, zz43, zz44, zz45, ldVar, zz46, zz47, zz48, zz49, zz50, zz51, zz52, zz53, zz54, zz55, zz56, zz57, zz58, callOf, evBuild, fillA, evBuildSlice, repCells, zz59, zz60, zz61, zz62, zz63, zz64, zz65, Nat.reduceLT, Nat.reduceGT, zz66, Nat.reduceMul, zz67, zz68, zz69, zz70, zz71, zz72, zz73, zz74, zz75, zz76, zz77, zz78, zz79, zz80, zz81, Nat.reduceAdd, zz82, overwrite, zz83, zz84, zz85, zz86, zz87, zz88, zz89, zz90, zz91, zz92, zz93, zz94, zz95, zz96, zz97, stO_app, zz98, zz99, zz100, zz101, zz102, zz103, zz104, zz105, zz106, zz107, zz108, Nat.reduceLeDiff, zz109, zz110, zz111, zz112, zz113, zz114, zz115, zz116, zz117, zz118, zz119, zz120, zz121, zz122, zz123, zz124, zz125, zz126, zz127, zz128, zz129, wantedA, hL, Try.underlying3, Try.underlying23, Try.underlying27, Try.underlying33, sz3, kb3, zr3, ag3, pk3, sz23, kb23, zr23, ag23, sz27, kb27, zr27, ag27, sz33, kb33, zr33, ag33, fa33x0, fl33x0, fa33x1, fl33x1, pl33, gd33, st33, g1d]; try (refine hK _ ?_; clear hK hL K L)) | refine ev_seq ?_ | refine ev_block ?_ | refine ev_skip ?_ | refine ev_exit ?_ | refine ev_ret ?_ | refine ev_label ?_ | refine ev_scope ?_ | refine norm_normal ?_ | refine norm_ret ?_ | refine norm_exit ?_ | refine blk_normal ?_ | refine blk_ret ?_ | refine blk_exit_eq ?_ | refine blk_exit_ne (by decide) ?_ | refine sco_normal ?_ | refine sco_ret ?_ | refine sco_exit ?_ | fail | fail)
        refine ev_cond rfl (fun hc => ?_) (fun hc => ?_)
        · cases hc
        · clear hc
          obtain ⟨v1, H3, ha1, hB1, hP1, _⟩ := append_rd (E := En W M) (H0 := H2) (H1 := H2 ++ [AObj.cells [] 1 true]) (sT := 23) (xT := 23) (v := .slice (some ⟨M + H2.length, 0, none⟩) 0 0) (css := []) Try.underlying23 rfl sz3 kb3 zr3 rfl ⟨fun _ h => absurd h (by simp), .inl ⟨rfl, _, rfl⟩⟩ (Pre.app _) (hw1 _ (Pre.app _)).2 (Enc.lens (eI .i64) _) (Enc.alls (eI .i64) _) (by simp; omega) (by decide)
          obtain ⟨v2, H4, ha2, hB2, hP2, _⟩ := append_one (E := En W M) (sT := 23) (xT := 23) (H1 := H3) (cs := ie .i64 l[i].1) Try.underlying23 rfl sz3 kb3 zr3 rfl hB1 hP1 rfl rfl (by simp; omega) (by decide)
          obtain ⟨v3, H5, ha3, hB3, hP3, _⟩ := append_rd (E := En W M) (sT := 23) (xT := 23) Try.underlying23 rfl sz3 kb3 zr3 rfl hB2 hP2 (hw2 _ hP2).2 (Enc.lens (eI .i64) _) (Enc.alls (eI .i64) _) (by simp; omega) (by decide)
          have hs1 := (hw1 _ (Pre.app [AObj.cells [] 1 true])).1
          have hs2 := (hw2 _ hP2).1
          have hx3 := (ldc_two.1 ((hp.trans hP1).ldc hxx)).1
          simp only [En_M, ie] at ha1 ha2
          repeat (first | ((first | refine ev_reg_seq rfl (by decide +kernel) ?_ | refine ev_reg rfl (by decide +kernel) ?_); intro K L hL hK; simp (maxSteps := 3000000) only [zz0, zz1, zz2, zz3, zz4, zz5, zz6, zz7, zz8, zz9, zz10, zz11, zz12, zz13, zz14, zz15, zz16, zz17, zz18, zz19, zz20, zz21, zz22, zz23, zz24, zz25, zz26, zz27, zz28, zz29, zz30, zz31, zz32, zz33, zz34, zz35, sval, sputO, zz36, zz37, zz38, zz39, zz40, zz41, zz42, evOp, evBin, evInt, evUn, evIndexAddr, evBuiltin, evLen, newA, zz43, zz44, zz45, ldVar, zz46, zz47, zz48, zz49, zz50, zz51, zz52, zz53, zz54, zz55, zz56, zz57, zz58, callOf, evBuild, fillA, evBuildSlice, repCells, zz59, zz60, zz61, zz62, zz63, zz64, zz65, Nat.reduceLT, Nat.reduceGT, zz66, Nat.reduceMul, zz67, zz68, zz69, zz70, zz71, zz72, zz73, zz74, zz75, zz76, zz77, zz78, zz79, zz80, zz81, Nat.reduceAdd, zz82, overwrite, zz83, zz84, zz85, zz86, zz87, zz88, zz89, zz90, zz91, zz92, zz93, zz94, zz95, zz96, zz97, stO_app, zz98, zz99, zz100, zz101, zz102, zz103, zz104, zz105, zz106, zz107, zz108, Nat.reduceLeDiff, zz109, zz110, zz111, zz112, zz113, zz114, zz115, zz116, zz117, zz118, zz119, zz120, zz121, zz122, zz123, zz124, zz125, zz126, zz127, zz128, zz129, wantedA, hL, Try.underlying3, Try.underlying23, Try.underlying27, Try.underlying33, sz3, kb3, zr3, ag3, pk3, sz23, kb23, zr23, ag23, sz27, kb27, zr27, ag27, sz33, kb33, zr33, ag33, fa33x0, fl33x0, fa33x1, fl33x1, pl33, gd33, st33, hs1, hs2, ha1, ha2, ha3, h0, h1, hx3, hw, Option.map_none]; try (refine hK _ ?_; clear hK hL K L)) | refine ev_seq ?_ | refine ev_block ?_ | refine ev_skip ?_ | refine ev_exit ?_ | refine ev_ret ?_ | refine ev_label ?_ | refine ev_scope ?_ | refine norm_normal ?_ | refine norm_ret ?_ | refine norm_exit ?_ | refine blk_normal ?_ | refine blk_ret ?_ | refine blk_exit_eq ?_ | refine blk_exit_ne (by decide) ?_ | refine sco_normal ?_ | refine sco_ret ?_ | refine sco_exit ?_ | fail | fail)
          refine ⟨(i + 1, v3, insB l[i].1 out), rfl, ⟨hlt, hp.trans hP3, ?_, hfold.symm, by have := insB_length l[i].1 out; simp only; omega, fun h => ?_⟩, by simp only; omega⟩
          · have := hB3.base hp
            simp only
            rw [hinsn]
            have e : (out.take n ++ l[i].1 :: out.drop n).map (eI .i64).cs = [] ++ (out.take n).map (eI .i64).cs ++ [ie .i64 l[i].1] ++ (out.drop n).map (eI .i64).cs := by
              simp [List.map_append]; rfl
            unfold BldE
            rw [e]; exact this
          · simp only at h; rw [hinsn] at h; simp at h
  · have hge : l.length ≤ i := by simpa using hc
    repeat (first | ((first | refine ev_reg_seq rfl (by decide +kernel) ?_ | refine ev_reg rfl (by decide +kernel) ?_); intro K L hL hK; simp (maxSteps := 3000000) only [zz0, zz1, zz2, zz3, zz4, zz5, zz6, zz7, zz8, zz9, zz10, zz11, zz12, zz13, zz14, zz15, zz16, zz17, zz18, zz19, zz20, zz21, zz22, zz23, zz24, zz25, zz26, zz27, zz28, zz29, zz30, zz31, zz32, zz33, zz34, zz35, sval, sputO, zz36, zz37, zz38, zz39, zz40, zz41, zz42, evOp, evBin, evInt, evUn, evIndexAddr, evBuiltin, evLen, newA, zz43, zz44, zz45, ldVar, zz46, zz47, zz48, zz49, zz50, zz51, zz52, zz53, zz54, zz55, zz56, zz57, zz58, callOf, evBuild, fillA, evBuildSlice, repCells, zz59, zz60, zz61, zz62, zz63, zz64, zz65, Nat.reduceLT, Nat.reduceGT, zz66, Nat.reduceMul, zz67, zz68, zz69, zz70, zz71, zz72, zz73, zz74, zz75, zz76, zz77, zz78, zz79, zz80, zz81, Nat.reduceAdd, zz82, overwrite, zz83, zz84, zz85, zz86, zz87, zz88, zz89, zz90, zz91, zz92, zz93, zz94, zz95, zz96, zz97, stO_app, zz98, zz99, zz100, zz101, zz102, zz103, zz104, zz105, zz106, zz107, zz108, Nat.reduceLeDiff, zz109, zz110, zz111, zz112, zz113, zz114, zz115, zz116, zz117, zz118, zz119, zz120, zz121, zz122, zz123, zz124, zz125, zz126, zz127, zz128, zz129, wantedA, hL, Try.underlying3, Try.underlying23, Try.underlying27, Try.underlying33, sz3, kb3, zr3, ag3, pk3, sz23, kb23, zr23, ag23, sz27, kb27, zr27, ag27, sz33, kb33, zr33, ag33, fa33x0, fl33x0, fa33x1, fl33x1, pl33, gd33, st33]; try (refine hK _ ?_; clear hK hL K L)) | refine ev_seq ?_ | refine ev_block ?_ | refine ev_skip ?_ | refine ev_exit ?_ | refine ev_ret ?_ | refine ev_label ?_ | refine ev_scope ?_ | refine norm_normal ?_ | refine norm_ret ?_ | refine norm_exit ?_ | refine blk_normal ?_ | refine blk_ret ?_ | refine blk_exit_eq ?_ | refine blk_exit_ne (by decide) ?_ | refine sco_normal ?_ | refine sco_ret ?_ | refine sco_exit ?_ | fail | fail)
    refine ret_of (.inr rfl) rfl ?_
    rw [List.take_of_length_le hge] at hout
    refine hk _ _ ?_ hp
    rw [show blocksS l = out from hout.symm]; exact hB

end Go.Proofs.Ytmjcfcbjccepnaa.Eng
