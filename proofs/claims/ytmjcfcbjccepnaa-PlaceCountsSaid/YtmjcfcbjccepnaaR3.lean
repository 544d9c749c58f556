/-
  What is copied and built: Clone, Used's row.
-/
import Derived.Test.YtmjcfcbjccepnaaR2
namespace Go.Proofs.Ytmjcfcbjccepnaa.Eng
open Go Go.RowKit
set_option linter.unusedSimpArgs false
set_option linter.unusedVariables false
set_option pp.deepTerms false
set_option pp.deepTerms.threshold 3
attribute [local irreducible] Ev EvCall EvOps EvPlan EvR
variable {W : World} {M : Nat} {H H' : AH}

theorem all_ie (k : IntKind) (l : List Int) : ((l.map (ie k)).flatten).all Value.oneCell' = true := by
  induction l with
  | nil => rfl
  | cons x l ih => rw [List.map_cons, List.flatten_cons, List.all_append, ih]; rfl
theorem all_pe (l : List (Int × Int)) : ((l.map pe).flatten).all Value.oneCell' = true := by
  induction l with
  | nil => rfl
  | cons x l ih => rw [List.map_cons, List.flatten_cons, List.all_append, ih]; rfl
theorem len_ie (k : IntKind) (l : List Int) : ∀ cs ∈ l.map (ie k), cs.length = 1 := by
  intro cs h; obtain ⟨x, _, rfl⟩ := List.mem_map.1 h; rfl
theorem len_pe (l : List (Int × Int)) : ∀ cs ∈ l.map pe, cs.length = 2 := by
  intro cs h; obtain ⟨x, _, rfl⟩ := List.mem_map.1 h; rfl

set_option maxHeartbeats 1000000 in
theorem CloneI_calls {v : Value} {l : List Int} (hn : l.length < 1048576) (hv : RdI (En W M) H .i64 v l) {k : Value → AH → Prop}
    (hk : ∀ v' H', Pre H H' → Bld (En W M) H H' 1 v' (l.map (ie .i64)) → k v' H') : EvCall (En W M) 26 [v] H k := by
  obtain ⟨base, c, rfl, hr⟩ := hv.open
  refine ev_call rfl Try.func26 rfl (by kernel_rfl) (of_decide_eq_true (by kernel_rfl)) (rs := [.tmp 2]) rfl ?_
  simp only [Try.ntmps26, List.length_cons, List.length_nil, Nat.reduceAdd, Nat.reduceSub, List.replicate_succ, List.replicate_zero, List.cons_append, List.nil_append]
  cases base with
  | none =>
    have : l = [] := by
      cases l with
      | nil => rfl
      | cons x l => obtain ⟨a, ha, _⟩ := hr 0 (by simp); cases ha
    subst this
    repeat (first | ((first | refine ev_reg_seq rfl (by decide +kernel) ?_ | refine ev_reg rfl (by decide +kernel) ?_); intro K L hL hK; simp (maxSteps := 3000000) only [zz0, zz1, zz2, zz3, zz4, zz5, zz6, zz7, zz8, zz9, zz10, zz11, zz12, zz13, zz14, zz15, zz16, zz17, zz18, zz19, zz20, zz21, zz22, zz23, zz24, zz25, zz26, zz27, zz28, zz29, zz30, zz31, zz32, zz33, zz34, zz35, sval, sputO, zz36, zz37, zz38, zz39, zz40, zz41, zz42, evOp, evBin, evInt, evUn, evIndexAddr, evBuiltin, evLen, newA, zz43, zz44, zz45, ldVar, zz46, zz47, zz48, zz49, zz50, zz51, zz52, zz53, zz54, zz55, zz56, zz57, zz58, callOf, evBuild, fillA, evBuildSlice, repCells, zz59, zz60, zz61, zz62, zz63, zz64, zz65, Nat.reduceLT, Nat.reduceGT, zz66, Nat.reduceMul, zz67, zz68, zz69, zz70, zz71, zz72, zz73, zz74, zz75, zz76, zz77, zz78, zz79, zz80, zz81, Nat.reduceAdd, zz82, overwrite, zz83, zz84, zz85, zz86, zz87, zz88, zz89, zz90, zz91, zz92, zz93, zz94, zz95, zz96, zz97, stO_app, zz98, zz99, zz100, zz101, zz102, zz103, zz104, zz105, zz106, zz107, zz108, Nat.reduceLeDiff, zz109, zz110, zz111, zz112, zz113, zz114, zz115, zz116, zz117, zz118, zz119, zz120, zz121, zz122, zz123, zz124, zz125, zz126, zz127, zz128, zz129, wantedA, hL, Try.underlying3, Try.underlying23, sz3, kb3, zr3, ag3, pk3, sz23, kb23, zr23, ag23, evEq, evEqStep, Option.isNone_none]; try (refine hK _ ?_; clear hK hL K L)) | refine ev_seq ?_ | refine ev_block ?_ | refine ev_skip ?_ | refine ev_exit ?_ | refine ev_ret ?_ | refine ev_label ?_ | refine ev_scope ?_ | refine norm_normal ?_ | refine norm_ret ?_ | refine norm_exit ?_ | refine blk_normal ?_ | refine blk_ret ?_ | refine blk_exit_eq ?_ | refine blk_exit_ne (by decide) ?_ | refine sco_normal ?_ | refine sco_ret ?_ | refine sco_exit ?_ | fail | fail)
    refine ev_cond rfl (fun hc => ?_) (fun hc => ?_)
    · repeat (first | ((first | refine ev_reg_seq rfl (by decide +kernel) ?_ | refine ev_reg rfl (by decide +kernel) ?_); intro K L hL hK; simp (maxSteps := 3000000) only [zz0, zz1, zz2, zz3, zz4, zz5, zz6, zz7, zz8, zz9, zz10, zz11, zz12, zz13, zz14, zz15, zz16, zz17, zz18, zz19, zz20, zz21, zz22, zz23, zz24, zz25, zz26, zz27, zz28, zz29, zz30, zz31, zz32, zz33, zz34, zz35, sval, sputO, zz36, zz37, zz38, zz39, zz40, zz41, zz42, evOp, evBin, evInt, evUn, evIndexAddr, evBuiltin, evLen, newA, zz43, zz44, zz45, ldVar, zz46, zz47, zz48, zz49, zz50, zz51, zz52, zz53, zz54, zz55, zz56, zz57, zz58, callOf, evBuild, fillA, evBuildSlice, repCells, zz59, zz60, zz61, zz62, zz63, zz64, zz65, Nat.reduceLT, Nat.reduceGT, zz66, Nat.reduceMul, zz67, zz68, zz69, zz70, zz71, zz72, zz73, zz74, zz75, zz76, zz77, zz78, zz79, zz80, zz81, Nat.reduceAdd, zz82, overwrite, zz83, zz84, zz85, zz86, zz87, zz88, zz89, zz90, zz91, zz92, zz93, zz94, zz95, zz96, zz97, stO_app, zz98, zz99, zz100, zz101, zz102, zz103, zz104, zz105, zz106, zz107, zz108, Nat.reduceLeDiff, zz109, zz110, zz111, zz112, zz113, zz114, zz115, zz116, zz117, zz118, zz119, zz120, zz121, zz122, zz123, zz124, zz125, zz126, zz127, zz128, zz129, wantedA, hL, Try.underlying3, Try.underlying23, sz3, kb3, zr3, ag3, pk3, sz23, kb23, zr23, ag23]; try (refine hK _ ?_; clear hK hL K L)) | refine ev_seq ?_ | refine ev_block ?_ | refine ev_skip ?_ | refine ev_exit ?_ | refine ev_ret ?_ | refine ev_label ?_ | refine ev_scope ?_ | refine norm_normal ?_ | refine norm_ret ?_ | refine norm_exit ?_ | refine blk_normal ?_ | refine blk_ret ?_ | refine blk_exit_eq ?_ | refine blk_exit_ne (by decide) ?_ | refine sco_normal ?_ | refine sco_ret ?_ | refine sco_exit ?_ | fail | fail)
      refine ret_of (.inr rfl) rfl ?_
      exact hk _ _ (Pre.refl _) Bld.nil
    · cases hc
  | some a =>
    repeat (first | ((first | refine ev_reg_seq rfl (by decide +kernel) ?_ | refine ev_reg rfl (by decide +kernel) ?_); intro K L hL hK; simp (maxSteps := 3000000) only [zz0, zz1, zz2, zz3, zz4, zz5, zz6, zz7, zz8, zz9, zz10, zz11, zz12, zz13, zz14, zz15, zz16, zz17, zz18, zz19, zz20, zz21, zz22, zz23, zz24, zz25, zz26, zz27, zz28, zz29, zz30, zz31, zz32, zz33, zz34, zz35, sval, sputO, zz36, zz37, zz38, zz39, zz40, zz41, zz42, evOp, evBin, evInt, evUn, evIndexAddr, evBuiltin, evLen, newA, zz43, zz44, zz45, ldVar, zz46, zz47, zz48, zz49, zz50, zz51, zz52, zz53, zz54, zz55, zz56, zz57, zz58, callOf, evBuild, fillA, evBuildSlice, repCells, zz59, zz60, zz61, zz62, zz63, zz64, zz65, Nat.reduceLT, Nat.reduceGT, zz66, Nat.reduceMul, zz67, zz68, zz69, zz70, zz71, zz72, zz73, zz74, zz75, zz76, zz77, zz78, zz79, zz80, zz81, Nat.reduceAdd, zz82, overwrite, zz83, zz84, zz85, zz86, zz87, zz88, zz89, zz90, zz91, zz92, zz93, zz94, zz95, zz96, zz97, stO_app, zz98, zz99, zz100, zz101, zz102, zz103, zz104, zz105, zz106, zz107, zz108, Nat.reduceLeDiff, zz109, zz110, zz111, zz112, zz113, zz114, zz115, zz116, zz117, zz118, zz119, zz120, zz121, zz122, zz123, zz124, zz125, zz126, zz127, zz128, zz129, wantedA, hL, Try.underlying3, Try.underlying23, sz3, kb3, zr3, ag3, pk3, sz23, kb23, zr23, ag23, evEq, evEqStep]; try (refine hK _ ?_; clear hK hL K L)) | refine ev_seq ?_ | refine ev_block ?_ | refine ev_skip ?_ | refine ev_exit ?_ | refine ev_ret ?_ | refine ev_label ?_ | refine ev_scope ?_ | refine norm_normal ?_ | refine norm_ret ?_ | refine norm_exit ?_ | refine blk_normal ?_ | refine blk_ret ?_ | refine blk_exit_eq ?_ | refine blk_exit_ne (by decide) ?_ | refine sco_normal ?_ | refine sco_ret ?_ | refine sco_exit ?_ | fail | fail)
    refine ev_cond rfl (fun hc => ?_) (fun hc => ?_)
    · cases hc
    · have hB : Bld (En W M) H (H ++ [.cells [] 1 true]) 1 (.slice (some ⟨M + H.length, 0, none⟩) 0 0) [] := ⟨fun _ h => absurd h (by simp), .inl ⟨rfl, _, rfl⟩⟩
      obtain ⟨v', H2, ha, hb, hp2, hrest⟩ := append_rd (E := En W M) (sT := 23) (xT := 23) Try.underlying23 rfl sz3 kb3 zr3 rfl hB (Pre.app _) (hv.pre (Pre.app _)) (len_ie _ _) (all_ie _ _) (by simp; omega) (by decide)
      repeat (first | ((first | refine ev_reg_seq rfl (by decide +kernel) ?_ | refine ev_reg rfl (by decide +kernel) ?_); intro K L hL hK; simp (maxSteps := 3000000) only [zz0, zz1, zz2, zz3, zz4, zz5, zz6, zz7, zz8, zz9, zz10, zz11, zz12, zz13, zz14, zz15, zz16, zz17, zz18, zz19, zz20, zz21, zz22, zz23, zz24, zz25, zz26, zz27, zz28, zz29, zz30, zz31, zz32, zz33, zz34, zz35, sval, sputO, zz36, zz37, zz38, zz39, zz40, zz41, zz42, evOp, evBin, evInt, evUn, evIndexAddr, evBuiltin, evLen, newA, zz43, zz44, zz45, ldVar, zz46, zz47, zz48, zz49, zz50, zz51, zz52, zz53, zz54, zz55, zz56, zz57, zz58, callOf, evBuild, fillA, evBuildSlice, repCells, zz59, zz60, zz61, zz62, zz63, zz64, zz65, Nat.reduceLT, Nat.reduceGT, zz66, Nat.reduceMul, zz67, zz68, zz69, zz70, zz71, zz72, zz73, zz74, zz75, zz76, zz77, zz78, zz79, zz80, zz81, Nat.reduceAdd, zz82, overwrite, zz83, zz84, zz85, zz86, zz87, zz88, zz89, zz90, zz91, zz92, zz93, zz94, zz95, zz96, zz97, stO_app, zz98, zz99, zz100, zz101, zz102, zz103, zz104, zz105, zz106, zz107, zz108, Nat.reduceLeDiff, zz109, zz110, zz111, zz112, zz113, zz114, zz115, zz116, zz117, zz118, zz119, zz120, zz121, zz122, zz123, zz124, zz125, zz126, zz127, zz128, zz129, wantedA, hL, Try.underlying3, Try.underlying23, sz3, kb3, zr3, ag3, pk3, sz23, kb23, zr23, ag23, ha]; try (refine hK _ ?_; clear hK hL K L)) | refine ev_seq ?_ | refine ev_block ?_ | refine ev_skip ?_ | refine ev_exit ?_ | refine ev_ret ?_ | refine ev_label ?_ | refine ev_scope ?_ | refine norm_normal ?_ | refine norm_ret ?_ | refine norm_exit ?_ | refine blk_normal ?_ | refine blk_ret ?_ | refine blk_exit_eq ?_ | refine blk_exit_ne (by decide) ?_ | refine sco_normal ?_ | refine sco_ret ?_ | refine sco_exit ?_ | fail | fail)
      refine ret_of (.inr rfl) rfl ?_
      exact hk _ _ hp2 hb

end Go.Proofs.Ytmjcfcbjccepnaa.Eng
