/-
  The function value that looks into a map, walked.
-/
import Derived.Test.YtmjcfcbjccepnaaR8
namespace Go.Proofs.Ytmjcfcbjccepnaa.Eng
open Go Go.RowKit
set_option linter.unusedSimpArgs false
set_option linter.unusedVariables false
set_option pp.deepTerms false
set_option pp.deepTerms.threshold 3
attribute [local irreducible] Ev EvCall EvOps EvPlan EvR
variable {W : World} {M : Nat} {H H' H0 : AH}

set_option maxHeartbeats 1000000 in
theorem Others1_fn {a1 : Addr} {q : Nat} {own : Bool} {m : List (Int × Bool)} :
    FnOk (En W M) (fun H1 => ld (En W M) H1 a1 = some (.map (some (M + q))) ∧ H1[q]? = some (.map (mapE .i64 Value.bool m) own)) (.func (.func 38) #[] #[.pointer (some a1)]) (fun x : Int × Int => .agg #[.int .i64 x.1, .int .i64 x.2]) (fun x => (lookL m x.1).getD false) := by
  refine ⟨_, _, _, rfl, fun x H1 k ⟨h1, h2⟩ hk => ?_⟩
  show EvCall _ _ [.agg #[.int .i64 x.1, .int .i64 x.2], .pointer (some a1)] _ _
  refine ev_call rfl Try.func38 rfl (by kernel_rfl) (of_decide_eq_true (by kernel_rfl)) (rs := [.tmp 3]) rfl ?_
  simp only [Try.ntmps38, List.length_cons, List.length_nil, Nat.reduceAdd, Nat.reduceSub, List.replicate_succ, List.replicate_zero, List.cons_append, List.nil_append]
  have h1' : ∀ N, ld (En W M) (H1 ++ N) a1 = some (.map (some (M + q))) := fun N => (Pre.app N).ld h1
  have hl : ∀ N, evLookup (En W M) 65 (.map (some (M + q))) (.int .i64 x.1) false (H1 ++ N) = some (.bool ((lookL m x.1).getD false)) := fun N =>
    lookup_map (E := En W M) (f := Value.bool) Try.underlying65 pk3 zr4 (get_app_old h2)
  repeat (first | ((first | refine ev_reg_seq rfl (by decide +kernel) ?_ | refine ev_reg rfl (by decide +kernel) ?_); intro K L hL hK; simp (maxSteps := 3000000) only [zz0, zz1, zz2, zz3, zz4, zz5, zz6, zz7, zz8, zz9, zz10, zz11, zz12, zz13, zz14, zz15, zz16, zz17, zz18, zz19, zz20, zz21, zz22, zz23, zz24, zz25, zz26, zz27, zz28, zz29, zz30, zz31, zz32, zz33, zz34, zz35, sval, sputO, zz36, zz37, zz38, zz39, zz40, zz41, zz42, evOp, evBin, evInt, evUn, evIndexAddr, evBuiltin, evLen, newA, zz43, zz44, zz45, ldVar, zz46, zz47, zz48, zz49, zz50, zz51, zz52, zz53, zz54, zz55, zz56, zz57, zz58, callOf, evBuild, fillA, evBuildSlice, repCells, zz59, zz60, zz61, zz62, zz63, zz64, zz65, Nat.reduceLT, Nat.reduceGT, zz66, Nat.reduceMul, zz67, zz68, zz69, zz70, zz71, zz72, zz73, zz74, zz75, zz76, zz77, zz78, zz79, zz80, zz81, Nat.reduceAdd, zz82, overwrite, zz83, zz84, zz85, zz86, zz87, zz88, zz89, zz90, zz91, zz92, zz93, zz94, zz95, zz96, zz97, stO_app, zz98, zz99, zz100, zz101, zz102, zz103, zz104, zz105, zz106, zz107, zz108, Nat.reduceLeDiff, zz109, zz110, zz111, zz112, zz113, zz114, zz115, zz116, zz117, zz118, zz119, zz120, zz121, zz122, zz123, zz124, zz125, zz126, zz127, zz128, zz129, wantedA, hL, Try.underlying3, Try.underlying4, Try.underlying33, Try.underlying65, sz3, kb3, zr3, ag3, pk3, sz4, kb4, zr4, ag4, sz33, kb33, zr33, ag33, fa33x0, fl33x0, fa33x1, fl33x1, pl33, gd33, st33, sz65, kb65, zr65, ag65, h1', hl]; try (refine hK _ ?_; clear hK hL K L)) | refine ev_seq ?_ | refine ev_block ?_ | refine ev_skip ?_ | refine ev_exit ?_ | refine ev_ret ?_ | refine ev_label ?_ | refine ev_scope ?_ | refine norm_normal ?_ | refine norm_ret ?_ | refine norm_exit ?_ | refine blk_normal ?_ | refine blk_ret ?_ | refine blk_exit_eq ?_ | refine blk_exit_ne (by decide) ?_ | refine sco_normal ?_ | refine sco_ret ?_ | refine sco_exit ?_ | fail | fail)
  refine ret_of (.inr rfl) rfl ?_
  exact hk _ (Pre.app _)

end Go.Proofs.Ytmjcfcbjccepnaa.Eng
