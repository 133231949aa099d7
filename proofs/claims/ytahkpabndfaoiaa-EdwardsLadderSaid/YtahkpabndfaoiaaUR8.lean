/-
The ladder of the base and the sum of bases are one: the row, proved.
-/
import Derived.Test.YtahkpabndfaoiaaUR
import Derived.Test.YtahkpabndfaoiaaUP

/- The ladder of the base and the sum of bases are one: the row, proved. -/
namespace Go.Proofs.Ytahkpabndfaoiaa
open Go.ChangeShapes Go.WideShapes Go.ChangeAt Go.RowKit Eng

set_option maxRecDepth 100000 in
theorem edwardsLadder_lifted (os : Os) (started : os.Started) (H : Type) (enc : TypeId × Value → H) :
    ReturnsInHanded {} Try.checked os 9 .any (Rows.edwardsLadderSpec.pre6 enc Try.prog Try.f9 Rows.edwardsLadderRow.domain false) (Rows.edwardsLadderSpec.post enc Try.prog Try.f9 false true false false) := by
  refine returnsInHanded_of_change (C := Try.checked) own started (by kernel_rfl) Try.func9
    (ChangeSpec.witness6 (enc := enc) (C := Try.checked) false ⟨#[], #[.agg (Array.replicate 32 (.int .u8 0))], []⟩ 8 (by kernel_rfl) (by kernel_rfl) (by kernel_rfl) (by kernel_rfl)) ?_
  intro W base args ds gs before hval0 hW hcnd _
  have hval : ∀ (j : Nat) t v, Try.f9.params[j]? = some t → args[j]? = some v → Value.okWide Try.prog W .any base t v := hval0
  have hW' := hW
  obtain ⟨p, q, hA0, hV, rfl, hfz, hnd⟩ := hW
  have hA : DataW.TrodAll enc Try.prog W 0 (fun _ => true) true Try.f9.params.toList args.toList ds p := hA0
  have hpar : Try.f9.params = #[23] := by kernel_rfl
  rw [hpar] at hA hval
  obtain ⟨v0, d0, rfl, rfl, a0⟩ := trodAll_one hA
  obtain ⟨rfl, rfl⟩ := trodVars_none hV
  obtain ⟨k0, rfl, rfl, rfl⟩ := open_key (hval 0 23 v0 rfl rfl) a0
  clear hA0 hval0
  simp only [List.append_nil] at hW'
  refine (edwardsLadder_calls k0 W).mono fun e W' ⟨he, hb⟩ => ?_
  subst he
  exact ⟨_, rfl, post_plain hW' (fun _ _ _ => trodAll_mk1 (shut_bool und_bool true)) (fun sp => trodAll_mk1 (shut_key k0)) (fun _ => rfl) (hb.frame _) (ok_one (by kernel_rfl) rfl (okWide_bool_mk und_bool true))⟩

theorem edwardsLadder_holds : Rows.EdwardsLadderSaid :=
  OpenClaim.holds_of_wide 9 Try.f9 rfl rfl rfl rfl rfl rfl rfl ⟨rfl, rfl, rfl, rfl, rfl⟩ rfl rfl rfl rfl rfl (by kernel_rfl) Try.func9 (by kernel_rfl)
    (of_decide_eq_true (by kernel_rfl)) (by unfold Func.isWrapper; first | (rw [if_pos (by decide +kernel)]; kernel_rfl) | (rw [if_neg (by decide +kernel)]; exact ⟨rfl, rfl⟩))
    (fun os started H enc _ => edwardsLadder_lifted os started H enc)

end Go.Proofs.Ytahkpabndfaoiaa
