/-
  A number above all addresses of a world.
-/
import Derived.Test.YtmjcfcbjccepnaaE25
namespace Go.Proofs.Ytmjcfcbjccepnaa.Eng
open Go Go.RowKit
set_option linter.unusedSimpArgs false
set_option linter.unusedVariables false

mutual
theorem val_bound : ∀ v : Value, ∃ n, ∀ m, n ≤ m → OldV m v
  | .bool b => ⟨0, fun m _ φ => .bool b⟩
  | .int k n => ⟨0, fun m _ φ => .int k n⟩
  | .float k n => ⟨0, fun m _ φ => .float k n⟩
  | .complex k a b => ⟨0, fun m _ φ => .complex k a b⟩
  | .string s => ⟨0, fun m _ φ => .string s⟩
  | .pointer none => ⟨0, fun m _ φ => .ptrNil⟩
  | .pointer (some a) => ⟨a.block + 1, fun m h φ => .ptrOld a (by omega)⟩
  | .slice none n c => ⟨0, fun m _ φ => .sliceNil n c⟩
  | .slice (some a) n c => ⟨a.block + 1, fun m h φ => .sliceOld a n c (by omega)⟩
  | .map none => ⟨0, fun m _ φ => .mapNil⟩
  | .map (some r) => ⟨r + 1, fun m h φ => .mapOld r (by omega)⟩
  | .chan r => ⟨0, fun m _ φ => .chan r⟩
  | .nilFunc => ⟨0, fun m _ φ => .nilFunc⟩
  | .nilIface => ⟨0, fun m _ φ => .nilIface⟩
  | .iface t v => let ⟨n, h⟩ := val_bound v; ⟨n, fun m hm φ => .iface t v v (h m hm φ)⟩
  | .agg ⟨l⟩ => let ⟨n, h⟩ := vals_bound l; ⟨n, fun m hm φ => .agg _ _ (h m hm φ)⟩
  | .tuple ⟨l⟩ => let ⟨n, h⟩ := vals_bound l; ⟨n, fun m hm φ => .tuple _ _ (h m hm φ)⟩
  | .func f ⟨a⟩ ⟨b⟩ => let ⟨n, h⟩ := vals_bound a; let ⟨n2, h2⟩ := vals_bound b; ⟨max n n2, fun m hm φ => .func f _ _ _ _ (h m (by omega) φ) (h2 m (by omega) φ)⟩
theorem vals_bound : ∀ l : List Value, ∃ n, ∀ m, n ≤ m → ∀ φ, VRs m φ l l
  | [] => ⟨0, fun m _ φ => .nil⟩
  | v :: l => let ⟨n, h⟩ := val_bound v; let ⟨n2, h2⟩ := vals_bound l; ⟨max n n2, fun m hm φ => .cons _ _ _ _ (h m (by omega) φ) (h2 m (by omega) φ)⟩
end

theorem objs_bound : ∀ l : List Obj, ∃ n, ∀ m, n ≤ m → ∀ o ∈ l, ∀ c e f, o = .cells c e f → ∀ φ, VRs m φ c.toList c.toList
  | [] => ⟨0, fun m _ o ho => by simp at ho⟩
  | o :: l => by
    obtain ⟨n, h⟩ := objs_bound l
    have : ∃ n2, ∀ m, n2 ≤ m → ∀ c e f, o = .cells c e f → ∀ φ, VRs m φ c.toList c.toList := by
      cases o with
      | cells c e f =>
        obtain ⟨n2, h2⟩ := vals_bound c.toList
        exact ⟨n2, fun m hm c' e' f' he => by cases he; exact h2 m hm⟩
      | _ => exact ⟨0, fun m _ c e f he => by cases he⟩
    obtain ⟨n2, h2⟩ := this
    refine ⟨max n n2, fun m hm o' ho' => ?_⟩
    rcases List.mem_cons.1 ho' with rfl | ho'
    · exact h2 m (by omega)
    · exact h m (by omega) o' ho'

/-- Numbers from which on new objects may be counted. -/
theorem world_bound (W : World) (n0 : Nat) (args : List Value) : ∃ M, n0 ≤ M ∧ W.heap.size ≤ M ∧ (∀ a v, W.cell? a = some v → OldV M v) ∧ VRs M (fun _ => none) args args := by
  obtain ⟨n, h⟩ := objs_bound W.heap.toList
  obtain ⟨n2, h2⟩ := vals_bound args
  refine ⟨max (max n n2) (max n0 W.heap.size), by omega, by omega, fun a v hv φ => ?_, h2 _ (by omega) _⟩
  unfold World.cell? at hv
  split at hv
  · rename_i c e f hb
    split at hv
    · cases hv
    · obtain ⟨v', h1, h3⟩ := (h (max (max n n2) (max n0 W.heap.size)) (by omega) (.cells c e f) (by rw [Array.mem_toList_iff]; exact Array.mem_of_getElem? hb) c e f rfl φ).get a.off v (by rw [Array.getElem?_toList]; exact hv)
      rw [Array.getElem?_toList, hv] at h1
      cases h1; exact h3
  · cases hv

end Go.Proofs.Ytmjcfcbjccepnaa.Eng
