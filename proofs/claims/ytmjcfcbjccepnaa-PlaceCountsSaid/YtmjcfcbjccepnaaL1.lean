/- The law PlaceCounts returns true for every input: which blocks any places use, how many are in each, which are free, which places are in bad ones. No condition. -/
import Derived.Test.YtmjcfcbjccepnaaRows
import Derived.Test.YtmjcfcbjccepnaaR17
import Derived.Test.YtmjcfcbjccepnaaShelf
import Derived.WalkKit
import Derived.ProofKit
import Derived.OpenShut
import Derived.ChangeOld
import Derived.Below
import Derived.SizedLaws
import Derived.Lib.SmallJoins
import Derived.Deep.SlicePairs
namespace Go.Proofs.Ytmjcfcbjccepnaa.Eng
open Go Go.RowKit Go.ChangeShapes Go.WideShapes Go.ChangeAt Go.Deep
set_option linter.unusedVariables false
set_option linter.unusedSimpArgs false

theorem own : ownKnob Try.prog.godebug = none := by kernel_rfl
theorem laidOut : laidOutB Try.prog = true := by kernel_rfl

theorem sortSpec (W : World) (M : Nat) : SortSpec (En W M) .i64 23 := by
  refine ⟨fun a w => ?_, fun p cap w => Try.slices_Sort_int_none p cap w, fun blk off cap zs w h1 h2 h3 => Try.slices_Sort_int blk off cap zs w h1 h2 h3⟩
  have hf := Try.func23
  have hn : ¬ Try.f23.name = "runtime.NumGoroutine" := by decide
  have hb : ∃ c, Try.f23.body = some c := ⟨_, rfl⟩
  obtain ⟨c, hb⟩ := hb
  simp [callFunc, En_P, hf, hn, hb]

theorem extOk (W : World) (M : Nat) : ExtOk (En W M) := by
  intro f g hf args H v H' φ w args' hg hrel hvs
  have hf : (if f = 23 then some (sortX .i64 M) else none) = some g := hf
  split at hf
  · rename_i e
    cases hf
    subst e
    exact ⟨(sortSpec W M).1, sort_sound (sortSpec W M) hg hrel hvs⟩
  · cases hf

theorem zeroOk (W : World) (M : Nat) : ZeroOk (En W M) := fun t z hz => (zeroT_old (En W M) hz).2

theorem mixed : Try.prog.follows .mixedOrders = true := by kernel_rfl

/-- A call of the abstract machine that answers true: the real one answers true. -/
theorem run_law {W : World} {f : FuncId} {args : List Value} (h : ∀ M, W.heap.size ≤ M → (∀ a v, W.cell? a = some v → a.block < M) → EvCall (En W M) f args [] (fun v _ => v = .bool true)) :
    Calls Try.prog f args.toArray W fun e w' => e = .returned (.bool true) ∧ Below W.heap.size W w' := by
  obtain ⟨M, h0, h1, h2, h3⟩ := world_bound W Try.prog.globals.size args
  obtain ⟨n, hn⟩ := h M h1 fun a v hv => Nat.lt_of_lt_of_le (World.block_lt_of_cell? W a hv) h1
  refine (evCall_calls (E := En W M) ⟨mixed, h1, h0, h2⟩ (zeroOk W M) (extOk W M) hn h3).mono ?_
  rintro e w' ⟨v, v', H', φ', rfl, rfl, hv, hr⟩
  cases hv
  exact ⟨rfl, hr.below⟩

theorem ld_arg {W : World} {M : Nat} {H : AH} {a : Addr} {v : Value} (hM : ∀ a v, W.cell? a = some v → a.block < M) (h : W.cell? a = some v) : ld (En W M) H a = some v := by
  unfold ld
  rw [if_pos (show a.block < (En W M).M from hM a v h)]
  exact h

section
variable {Hd : Type} {enc : TypeId × Value → Hd} {W : World} {base : Nat} {spare : Nat → Bool} {held : Bool}
def numV : Value → Int
  | .int _ n => n
  | _ => 0
theorem arg_int {t : TypeId} {fuel : Nat} {v : Value} {x : DataW Hd × List MemPlace} (ht : Try.prog.underlying t = some (.int .i64)) (h : DataW.trod enc Try.prog W base spare held fuel t [v] = some x) : ∃ n, v = .int .i64 n := by
  cases fuel with
  | zero => simp [DataW.trod] at h
  | succ m =>
    unfold DataW.trod at h
    rw [ht] at h
    cases v with
    | int k n =>
      simp only at h
      split at h
      · rename_i e; exact ⟨n, by rw [e.1]⟩
      · cases h
    | _ => simp at h
theorem arg_ints {M : Nat} {H : AH} {t : TypeId} {fuel : Nat} {v : Value} {x : DataW Hd × List MemPlace} (ht : Try.prog.underlying t = some (.slice 3)) (h : DataW.trod enc Try.prog W base spare held fuel t [v] = some x) (hM : ∀ a v, W.cell? a = some v → a.block < M) :
    ∃ l : List Int, RdI (En W M) H .i64 v l := by
  rcases open_ints ht Try.underlying3 (by kernel_rfl) h with ⟨hcs, _⟩ | ⟨a, len, cap, zs, hcs, _, hl, hm, hz, _, hcell, _⟩
  · cases hcs; exact ⟨[], none, 0, rfl, fun i cs hi => by simp at hi⟩
  · cases hcs
    have hzl : len ≤ zs.length := by rw [hz]; split <;> omega
    refine ⟨zs.take len, some a, cap, by simp [Nat.min_eq_left hzl], fun i cs hi => ⟨a, rfl, ?_⟩⟩
    rw [List.getElem?_map] at hi
    cases hzi : (zs.take len)[i]? with
    | none => rw [hzi] at hi; cases hi
    | some z =>
      rw [hzi] at hi; cases hi
      obtain ⟨hil, hie⟩ := List.getElem?_eq_some_iff.1 hzi
      have hil' : i < zs.length := by rw [List.length_take] at hil; omega
      rw [Nat.mul_one]
      refine ldc_one.2 ?_
      rw [addr_add_add, Nat.add_zero]
      refine ld_arg hM ?_
      rw [hcell i hil', ← hie, List.getElem_take]
      simp [hil']
theorem arg_places {M : Nat} {H : AH} {t : TypeId} {fuel : Nat} {v : Value} {x : DataW Hd × List MemPlace} (ht : Try.prog.underlying t = some (.slice 33)) (h : DataW.trod enc Try.prog W base spare held fuel t [v] = some x) (hM : ∀ a v, W.cell? a = some v → a.block < M) :
    ∃ l : List (Int × Int), RdP (En W M) H v l := by
  rcases open_slice_pairs ht Try.underlying33 (by kernel_rfl) (by kernel_rfl) (by kernel_rfl) (by kernel_rfl) (by kernel_rfl) h with ⟨hcs, _⟩ | ⟨a, len, cap, m, n, V0, V1, D0, D1, P0, P1, hcs, _, hl, hm, hmm, _, hx⟩
  · cases hcs; exact ⟨[], none, 0, rfl, fun i cs hi => by simp at hi⟩
  · cases hcs
    have hlm : len ≤ m := by rw [hmm]; split <;> omega
    refine ⟨(List.range len).map fun i => (numV (V0 i), numV (V1 i)), some a, cap, by simp, fun i cs hi => ⟨a, rfl, ?_⟩⟩
    rw [List.getElem?_map, List.getElem?_map] at hi
    cases hzi : (List.range len)[i]? with
    | none => rw [hzi] at hi; cases hi
    | some z =>
      rw [hzi] at hi; cases hi
      obtain ⟨hil, hie⟩ := List.getElem?_eq_some_iff.1 hzi
      simp at hil hie
      subst hie
      obtain ⟨c0, c1, t0, t1⟩ := hx i (by omega)
      obtain ⟨k0, e0⟩ := arg_int Try.underlying3 t0
      obtain ⟨k1, e1⟩ := arg_int Try.underlying3 t1
      rw [e0] at c0; rw [e1] at c1
      have c1' : W.cell? ((a.add (i * 2)).add 1) = some (.int .i64 k1) := by rw [addr_add_add]; exact c1
      have c0' : W.cell? ((a.add (i * 2)).add 0) = some (.int .i64 k0) := by rw [addr_add_add]; exact c0
      refine ldc_two.2 ⟨?_, ?_⟩
      · show ld _ _ _ = some (.int .i64 (numV (V0 i)))
        rw [e0]; exact ld_arg hM c0'
      · show ld _ _ _ = some (.int .i64 (numV (V1 i)))
        rw [e1]; exact ld_arg hM c1'
end

set_option maxRecDepth 100000 in
theorem PlaceCounts_lifted (os : Os) (started : os.Started) (Hd : Type) (enc : TypeId × Value → Hd) :
    ReturnsInHanded {} Try.checked os 5 .any (Rows.placeCountsSpec.pre6 enc Try.prog Try.f5 Rows.placeCountsRow.domain false) (Rows.placeCountsSpec.post enc Try.prog Try.f5 false true false false) := by
  refine returnsInHanded_of_change_sized (C := Try.checked) own started (by kernel_rfl) Try.func5
    (ChangeSpec.witness6 (enc := enc) (C := Try.checked) false ⟨#[], #[.agg #[.slice none 0 0, .slice none 0 0, .slice none 0 0, .int .i64 0]], []⟩ 8 (by kernel_rfl) (by kernel_rfl) (by kernel_rfl) (by kernel_rfl)) ?_
  intro W base args ds gs before hval0 hW hcnd hsz0 _
  have hval : ∀ (j : Nat) t v, Try.f5.params[j]? = some t → args[j]? = some v → Value.okWide Try.prog W .any base t v := hval0
  have hW' := hW
  obtain ⟨p, q, hA0, hV, rfl, hfz, hnd⟩ := hW
  have hA : DataW.TrodAll enc Try.prog W 0 (fun _ => true) true Try.f5.params.toList args.toList ds p := hA0
  rw [Try.params5] at hA hval
  obtain ⟨v0, vs0, d0, ds0, p0, q0, hargs, rfl, rfl, h0, r0⟩ := trodAll_cons hA
  obtain ⟨rfl, rfl, rfl⟩ := trodAll_nil r0
  obtain rfl : args = #[v0] := by cases args; simp_all
  obtain ⟨rfl, rfl⟩ := trodVars_none hV
  have k0 := h0
  have lt0 : ∀ x ∈ p0, x.block < W.heap.size := by obtain ⟨m, hm⟩ := k0; exact DataW.trod_lt m _ _ _ hm
  obtain ⟨a0, a1, a2, a3, y0, y1, y2, y3, n, rfl, _, _, t0, t1, t2, t3⟩ := Go.Joins.open_agg4 Try.underlying37 (by kernel_rfl) (by kernel_rfl) (hval 0 37 v0 rfl rfl) h0
  obtain ⟨blk, rfl⟩ := arg_int Try.underlying3 t3
  refine (run_law (f := 5) (args := [.agg #[a0, a1, a2, .int .i64 blk]]) fun M hM hb => ?_).mono fun e W' ⟨he, bel⟩ => ?_
  · obtain ⟨l, hl⟩ := arg_places (H := []) Try.underlying27 t0 hb
    obtain ⟨blocks, hbl⟩ := arg_ints (H := []) Try.underlying23 t1 hb
    obtain ⟨bad, hbd⟩ := arg_ints (H := []) Try.underlying23 t2 hb
    exact PlaceCounts_calls hl hbl hbd
  · subst he
    exact ⟨_, rfl, _, _, _, [], _, [], hW', trodAll_mk1 (shut_bool Try.underlying4 _), (trodAll_cons_mk (Below.trod laidOut (by kernel_rfl) (of_decide_eq_true (by kernel_rfl)) k0 bel lt0) trodAll_mk0), rfl, bel.frame _, fun h => by cases h⟩

theorem PlaceCounts_over : Rows.placeCountsRow.holds Try.pinned (OpenSpec.ofChange Rows.placeCountsSpec) :=
  OpenClaim.holds_of_wide 5 Try.f5 rfl rfl rfl rfl rfl rfl rfl ⟨rfl, rfl, rfl, rfl, rfl⟩ rfl rfl rfl rfl rfl (by kernel_rfl) Try.func5 (by kernel_rfl)
    (of_decide_eq_true (by kernel_rfl)) (by unfold Func.isWrapper; first | (rw [if_pos (by decide +kernel)]; kernel_rfl) | (rw [if_neg (by decide +kernel)]; exact ⟨rfl, rfl⟩))
    (fun os started H enc _ => PlaceCounts_lifted os started H enc)

end Go.Proofs.Ytmjcfcbjccepnaa.Eng
namespace Go.Proofs.Ytmjcfcbjccepnaa
/-- The law PlaceCounts. -/
theorem placeCounts_holds : Rows.PlaceCountsSaid := Eng.PlaceCounts_over
#print axioms placeCounts_holds
end Go.Proofs.Ytmjcfcbjccepnaa
