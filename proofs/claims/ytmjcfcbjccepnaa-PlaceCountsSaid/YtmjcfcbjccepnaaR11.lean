/-
  Stuck, walked; versions, how they are read; others, walked.
-/
import Derived.Test.YtmjcfcbjccepnaaR10
namespace Go.Proofs.Ytmjcfcbjccepnaa.Eng
open Go Go.RowKit
set_option linter.unusedSimpArgs false
set_option linter.unusedVariables false
set_option pp.deepTerms false
set_option pp.deepTerms.threshold 3
attribute [local irreducible] Ev EvCall EvOps EvPlan EvR
variable {W : World} {M : Nat} {H H' H0 : AH}

set_option maxHeartbeats 2000000 in
theorem Stuck_calls {v bv : Value} {bad : List Int} {l : List (Int × Int)} (hn : l.length < 1048576) (hn2 : bad.length < 1048576) (hb : RdI (En W M) H .i64 bv bad) (hu : RdP (En W M) H v l) {k : Value → AH → Prop}
    (hk : ∀ v' H', BldE eP (En W M) H H' v' (l.filter fun x => bad.any fun y => y == x.1) → Pre H H' → k v' H') : EvCall (En W M) 19 [v, bv] H k := by
  obtain ⟨base, c, rfl, hr⟩ := hb.open
  refine ev_call rfl Try.func19 rfl (by kernel_rfl) (of_decide_eq_true (by kernel_rfl)) (rs := [.tmp 4]) rfl ?_
  simp only [Try.ntmps19, List.length_cons, List.length_nil, Nat.reduceAdd, Nat.reduceSub, List.replicate_succ, List.replicate_zero, List.cons_append, List.nil_append]
  repeat (first | ((first | refine ev_reg_seq rfl (by decide +kernel) ?_ | refine ev_reg rfl (by decide +kernel) ?_); intro K L hL hK; simp (maxSteps := 3000000) only [zz0, zz1, zz2, zz3, zz4, zz5, zz6, zz7, zz8, zz9, zz10, zz11, zz12, zz13, zz14, zz15, zz16, zz17, zz18, zz19, zz20, zz21, zz22, zz23, zz24, zz25, zz26, zz27, zz28, zz29, zz30, zz31, zz32, zz33, zz34, zz35, sval, sputO, zz36, zz37, zz38, zz39, zz40, zz41, zz42, evOp, evBin, evInt, evUn, evIndexAddr, evBuiltin, evLen, newA, zz43, zz44, zz45, ldVar, zz46, zz47, zz48, zz49, zz50, zz51, zz52, zz53, zz54, zz55, zz56, zz57, zz58, callOf, evBuild, fillA, evBuildSlice, repCells, zz59, zz60, zz61, zz62, zz63, zz64, zz65, Nat.reduceLT, Nat.reduceGT, zz66, Nat.reduceMul, zz67, zz68, zz69, zz70, zz71, zz72, zz73, zz74, zz75, zz76, zz77, zz78, zz79, zz80, zz81, Nat.reduceAdd, zz82, overwrite, zz83, zz84, zz85, zz86, zz87, zz88, zz89, zz90, zz91, zz92, zz93, zz94, zz95, zz96, zz97, stO_app, zz98, zz99, zz100, zz101, zz102, zz103, zz104, zz105, zz106, zz107, zz108, Nat.reduceLeDiff, zz109, zz110, zz111, zz112, zz113, zz114, zz115, zz116, zz117, zz118, zz119, zz120, zz121, zz122, zz123, zz124, zz125, zz126, zz127, zz128, zz129, wantedA, hL, Try.underlying3, Try.underlying23, Try.underlying27, Try.underlying33, Try.underlying56, sz3, kb3, zr3, ag3, pk3, sz23, kb23, zr23, ag23, sz27, kb27, zr27, ag27, sz33, kb33, zr33, ag33, fa33x0, fl33x0, fa33x1, fl33x1, pl33, gd33, st33, sz56, kb56, zr56, ag56]; try (refine hK _ ?_; clear hK hL K L)) | refine ev_seq ?_ | refine ev_block ?_ | refine ev_skip ?_ | refine ev_exit ?_ | refine ev_ret ?_ | refine ev_label ?_ | refine ev_scope ?_ | refine norm_normal ?_ | refine norm_ret ?_ | refine norm_exit ?_ | refine blk_normal ?_ | refine blk_ret ?_ | refine blk_exit_eq ?_ | refine blk_exit_ne (by decide) ?_ | refine sco_normal ?_ | refine sco_ret ?_ | refine sco_exit ?_ | fail | fail)
  refine CloneP_calls hn (hu.pre (Pre.app _)) fun cv H3 hp4 hB2 => ?_
  simp only [nxc_eq]; (try simp (maxSteps := 3000000) only [zz0, zz1, zz2, zz3, zz4, zz5, zz6, zz7, zz8, zz9, zz10, zz11, zz12, zz13, zz14, zz15, zz16, zz17, zz18, zz19, zz20, zz21, zz22, zz23, zz24, zz25, zz26, zz27, zz28, zz29, zz30, zz31, zz32, zz33, zz34, zz35, sval, sputO, zz36, zz37, zz38, zz39, zz40, zz41, zz42, evOp, evBin, evInt, evUn, evIndexAddr, evBuiltin, evLen, newA, zz43, zz44, zz45, ldVar, zz46, zz47, zz48, zz49, zz50, zz51, zz52, zz53, zz54, zz55, zz56, zz57, zz58, callOf, evBuild, fillA, evBuildSlice, repCells, zz59, zz60, zz61, zz62, zz63, zz64, zz65, Nat.reduceLT, Nat.reduceGT, zz66, Nat.reduceMul, zz67, zz68, zz69, zz70, zz71, zz72, zz73, zz74, zz75, zz76, zz77, zz78, zz79, zz80, zz81, Nat.reduceAdd, zz82, overwrite, zz83, zz84, zz85, zz86, zz87, zz88, zz89, zz90, zz91, zz92, zz93, zz94, zz95, zz96, zz97, stO_app, zz98, zz99, zz100, zz101, zz102, zz103, zz104, zz105, zz106, zz107, zz108, Nat.reduceLeDiff, zz109, zz110, zz111, zz112, zz113, zz114, zz115, zz116, zz117, zz118, zz119, zz120, zz121, zz122, zz123, zz124, zz125, zz126, zz127, zz128, zz129, wantedA, hL, Try.underlying3, Try.underlying23, Try.underlying27, Try.underlying33, Try.underlying56, sz3, kb3, zr3, ag3, pk3, sz23, kb23, zr23, ag23, sz27, kb27, zr27, ag27, sz33, kb33, zr33, ag33, fa33x0, fl33x0, fa33x1, fl33x1, pl33, gd33, st33, sz56, kb56, zr56, ag56])
  have hp3 : Pre H (H ++ [.cells [.slice base bad.length c] 1 true]) := Pre.app _
  have hfn := (Stuck1_fn (W := W) (M := M) (a1 := ⟨M + H.length, 0, none⟩) (bv := .slice base bad.length c) (bad := bad) (by omega)).weaken
    (Fr' := Pre (H ++ [.cells [.slice base bad.length c] 1 true])) (fun H1 h => ⟨h.ld (by rw [ld_En, get_app_new0]; rfl), hb.pre (hp3.trans h)⟩)
  refine DeleteFuncP_calls hn hB2 hp4 hfn fun v' H4 hB4 hp5 => ?_
  simp only [nxc_eq]
  (try simp (maxSteps := 3000000) only [zz0, zz1, zz2, zz3, zz4, zz5, zz6, zz7, zz8, zz9, zz10, zz11, zz12, zz13, zz14, zz15, zz16, zz17, zz18, zz19, zz20, zz21, zz22, zz23, zz24, zz25, zz26, zz27, zz28, zz29, zz30, zz31, zz32, zz33, zz34, zz35, sval, sputO, zz36, zz37, zz38, zz39, zz40, zz41, zz42, evOp, evBin, evInt, evUn, evIndexAddr, evBuiltin, evLen, newA, zz43, zz44, zz45, ldVar, zz46, zz47, zz48, zz49, zz50, zz51, zz52, zz53, zz54, zz55, zz56, zz57, zz58, callOf, evBuild, fillA, evBuildSlice, repCells, zz59, zz60, zz61, zz62, zz63, zz64, zz65, Nat.reduceLT, Nat.reduceGT, zz66, Nat.reduceMul, zz67, zz68, zz69, zz70, zz71, zz72, zz73, zz74, zz75, zz76, zz77, zz78, zz79, zz80, zz81, Nat.reduceAdd, zz82, overwrite, zz83, zz84, zz85, zz86, zz87, zz88, zz89, zz90, zz91, zz92, zz93, zz94, zz95, zz96, zz97, stO_app, zz98, zz99, zz100, zz101, zz102, zz103, zz104, zz105, zz106, zz107, zz108, Nat.reduceLeDiff, zz109, zz110, zz111, zz112, zz113, zz114, zz115, zz116, zz117, zz118, zz119, zz120, zz121, zz122, zz123, zz124, zz125, zz126, zz127, zz128, zz129, wantedA, hL, Try.underlying3, Try.underlying23, Try.underlying27, Try.underlying33, Try.underlying56, sz3, kb3, zr3, ag3, pk3, sz23, kb23, zr23, ag23, sz27, kb27, zr27, ag27, sz33, kb33, zr33, ag33, fa33x0, fl33x0, fa33x1, fl33x1, pl33, gd33, st33, sz56, kb56, zr56, ag56]); refine hK _ ?_; clear hK hL K L
  repeat (first | ((first | refine ev_reg_seq rfl (by decide +kernel) ?_ | refine ev_reg rfl (by decide +kernel) ?_); intro K L hL hK; simp (maxSteps := 3000000) only [zz0, zz1, zz2, zz3, zz4, zz5, zz6, zz7, zz8, zz9, zz10, zz11, zz12, zz13, zz14, zz15, zz16, zz17, zz18, zz19, zz20, zz21, zz22, zz23, zz24, zz25, zz26, zz27, zz28, zz29, zz30, zz31, zz32, zz33, zz34, zz35, sval, sputO, zz36, zz37, zz38, zz39, zz40, zz41, zz42, evOp, evBin, evInt, evUn, evIndexAddr, evBuiltin, evLen, newA, zz43, zz44, zz45, ldVar, zz46, zz47, zz48, zz49, zz50, zz51, zz52, zz53, zz54, zz55, zz56, zz57, zz58, callOf, evBuild, fillA, evBuildSlice, repCells, zz59, zz60, zz61, zz62, zz63, zz64, zz65, Nat.reduceLT, Nat.reduceGT, zz66, Nat.reduceMul, zz67, zz68, zz69, zz70, zz71, zz72, zz73, zz74, zz75, zz76, zz77, zz78, zz79, zz80, zz81, Nat.reduceAdd, zz82, overwrite, zz83, zz84, zz85, zz86, zz87, zz88, zz89, zz90, zz91, zz92, zz93, zz94, zz95, zz96, zz97, stO_app, zz98, zz99, zz100, zz101, zz102, zz103, zz104, zz105, zz106, zz107, zz108, Nat.reduceLeDiff, zz109, zz110, zz111, zz112, zz113, zz114, zz115, zz116, zz117, zz118, zz119, zz120, zz121, zz122, zz123, zz124, zz125, zz126, zz127, zz128, zz129, wantedA, hL, Try.underlying3, Try.underlying23, Try.underlying27, Try.underlying33, Try.underlying56, sz3, kb3, zr3, ag3, pk3, sz23, kb23, zr23, ag23, sz27, kb27, zr27, ag27, sz33, kb33, zr33, ag33, fa33x0, fl33x0, fa33x1, fl33x1, pl33, gd33, st33, sz56, kb56, zr56, ag56]; try (refine hK _ ?_; clear hK hL K L)) | refine ev_seq ?_ | refine ev_block ?_ | refine ev_skip ?_ | refine ev_exit ?_ | refine ev_ret ?_ | refine ev_label ?_ | refine ev_scope ?_ | refine norm_normal ?_ | refine norm_ret ?_ | refine norm_exit ?_ | refine blk_normal ?_ | refine blk_ret ?_ | refine blk_exit_eq ?_ | refine blk_exit_ne (by decide) ?_ | refine sco_normal ?_ | refine sco_ret ?_ | refine sco_exit ?_ | fail | fail)
  refine ret_of (.inr rfl) rfl ?_
  refine hk _ _ ?_ (hp3.trans hp5)
  exact (by simpa using hB4.base hp3 : BldE eP (En W M) H H4 v' (l.filter fun x => bad.any fun y => y == x.1))

/-! ### Versions -/
abbrev Cop := Int × Int × List (Int × Int)
/-- A version's cells: its number, its kind, its places. -/
def eC : Enc (Int × Int × Value) := ⟨3, fun x => [.int .i64 x.1, .int .i64 x.2.1, (match x.2.2 with | .slice a n c => .slice a n c | _ => .slice none 0 0)], fun x => .agg [.int .i64 x.1, .int .i64 x.2.1, (match x.2.2 with | .slice a n c => .slice a n c | _ => .slice none 0 0)].toArray, fun _ => rfl,
  fun x => by obtain ⟨a, b, v⟩ := x; cases v <;> rfl, fun _ => rfl⟩

/-- A slice of versions. -/
def RdV (E : Env) (H : AH) (v : Value) (l : List Cop) : Prop :=
  ∃ raws : List (Int × Int × Value), RdE eC E H v raws ∧ raws.length = l.length ∧ ∀ i (h : i < raws.length) (h' : i < l.length), raws[i].1 = l[i].1 ∧ raws[i].2.1 = l[i].2.1 ∧ RdP E H raws[i].2.2 l[i].2.2

theorem RdV.pre {v : Value} {l : List Cop} (h : RdV (En W M) H v l) (hp : Pre H H') : RdV (En W M) H' v l := by
  obtain ⟨raws, h1, h2, h3⟩ := h
  exact ⟨raws, h1.pre hp, h2, fun i h h' => ⟨(h3 i h h').1, (h3 i h h').2.1, (h3 i h h').2.2.pre hp⟩⟩

theorem RdV.open {E : Env} {v : Value} {l : List Cop} (h : RdV E H v l) : ∃ (base : Option Addr) (cap : Nat), v = .slice base l.length cap ∧ ∀ i, (hi : i < l.length) → ∃ a b c, base = some a ∧ RdP E H (.slice b l[i].2.2.length c) l[i].2.2 ∧ ldc E H (a.add (i * 3)) 0 3 = some [.int .i64 l[i].1, .int .i64 l[i].2.1, .slice b l[i].2.2.length c] := by
  obtain ⟨raws, h1, h2, h3⟩ := h
  obtain ⟨b, c, hv, hr⟩ := h1.open
  refine ⟨b, c, by rw [← h2]; exact hv, fun i hi => ?_⟩
  obtain ⟨a, ha, hl⟩ := hr i (by omega)
  obtain ⟨e1, e2, e3⟩ := h3 i (by omega) hi
  obtain ⟨b2, c2, hv2, hr2⟩ := e3.open
  refine ⟨a, b2, c2, ha, by rw [← hv2]; exact e3, ?_⟩
  have : eC.cs raws[i] = [.int .i64 l[i].1, .int .i64 l[i].2.1, .slice b2 l[i].2.2.length c2] := by
    rw [← e1, ← e2]
    show [_, _, (match raws[i].2.2 with | .slice a n c => Value.slice a n c | _ => .slice none 0 0)] = _
    rw [hv2]
  rw [this] at hl
  exact hl

theorem ldc_three {E : Env} {a : Addr} {u v w : Value} : ldc E H (a.add 0) 0 3 = some [u, v, w] → ld E H (a.add 0) = some u ∧ ld E H (a.add 1) = some v ∧ ld E H (a.add 2) = some w := by
  intro h
  obtain ⟨_, h⟩ := ldc_get 3 0 _ h
  exact ⟨by simpa [addr_add_add] using h 0 u rfl, by simpa [addr_add_add] using h 1 v rfl, by simpa [addr_add_add] using h 2 w rfl⟩

end Go.Proofs.Ytmjcfcbjccepnaa.Eng
