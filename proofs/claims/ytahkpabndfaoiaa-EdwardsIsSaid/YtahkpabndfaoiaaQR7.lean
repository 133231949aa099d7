/-
Sums do not hang on order, and so often and so often is so often in all: the row, proved.
-/
import Derived.Test.YtahkpabndfaoiaaQR
import Derived.Test.YtahkpabndfaoiaaQN

/- Sums do not hang on order, and so often and so often is so often in all: the row, proved. -/
namespace Go.Proofs.Ytahkpabndfaoiaa
open Go.ChangeShapes Go.WideShapes Go.ChangeAt Go.RowKit Eng

set_option maxRecDepth 100000 in
theorem edwardsIs_lifted (os : Os) (started : os.Started) (H : Type) (enc : TypeId × Value → H) :
    ReturnsInHanded {} Try.checked os 5 .any (Rows.edwardsIsSpec.pre6 enc Try.prog Try.f5 Rows.edwardsIsRow.domain false) (Rows.edwardsIsSpec.post enc Try.prog Try.f5 false true false false) := by
  refine returnsInHanded_of_change (C := Try.checked) own started (by kernel_rfl) Try.func5
    (ChangeSpec.witness6 (enc := enc) (C := Try.checked) false ⟨#[], #[.agg (Array.replicate 32 (.int .u8 0)), .agg (Array.replicate 32 (.int .u8 0)), .agg (Array.replicate 32 (.int .u8 0)), .int .u8 0], []⟩ 8 (by kernel_rfl) (by kernel_rfl) (by kernel_rfl) (by kernel_rfl)) ?_
  intro W base args ds gs before hval0 hW hcnd _
  have hval : ∀ (j : Nat) t v, Try.f5.params[j]? = some t → args[j]? = some v → Value.okWide Try.prog W .any base t v := hval0
  have hW' := hW
  obtain ⟨p, q, hA0, hV, rfl, hfz, hnd⟩ := hW
  have hA : DataW.TrodAll enc Try.prog W 0 (fun _ => true) true Try.f5.params.toList args.toList ds p := hA0
  have hpar : Try.f5.params = #[23, 23, 23, 5] := by kernel_rfl
  rw [hpar] at hA hval
  obtain ⟨v0, v1, v2, v3, d0, d1, d2, d3, p0, p1, p2, p3, rfl, rfl, rfl, a0, a1, a2, a3⟩ := trodAll_four hA
  obtain ⟨rfl, rfl⟩ := trodVars_none hV
  obtain ⟨k0, rfl, rfl, rfl⟩ := open_key (hval 0 23 v0 rfl rfl) a0
  obtain ⟨k1, rfl, rfl, rfl⟩ := open_key (hval 1 23 v1 rfl rfl) a1
  obtain ⟨k2, rfl, rfl, rfl⟩ := open_key (hval 2 23 v2 rfl rfl) a2
  obtain ⟨t3, rfl, rfl, rfl, w3⟩ := open_int und_byte (hval 3 5 v3 rfl rfl) a3
  clear hA0 hval0
  simp only [List.append_nil] at hW'
  have h3 := bounds_u8 w3
  refine (edwardsIs_calls k0 k1 k2 (t3 := t3) ⟨h3.1, by omega⟩ W).mono fun e W' ⟨he, hb⟩ => ?_
  subst he
  exact ⟨_, rfl, post_plain hW' (fun _ _ _ => trodAll_mk1 (shut_bool und_bool true)) (fun sp => trodAll_mk4 (shut_key k0) (shut_key k1) (shut_key k2) (shut_int und_byte w3)) (fun _ => rfl) (hb.frame _) (ok_one (by kernel_rfl) rfl (okWide_bool_mk und_bool true))⟩

theorem edwardsIs_holds : Rows.EdwardsIsSaid :=
  OpenClaim.holds_of_wide 5 Try.f5 rfl rfl rfl rfl rfl rfl rfl ⟨rfl, rfl, rfl, rfl, rfl⟩ rfl rfl rfl rfl rfl (by kernel_rfl) Try.func5 (by kernel_rfl)
    (of_decide_eq_true (by kernel_rfl)) (by unfold Func.isWrapper; first | (rw [if_pos (by decide +kernel)]; kernel_rfl) | (rw [if_neg (by decide +kernel)]; exact ⟨rfl, rfl⟩))
    (fun os started H enc _ => edwardsIs_lifted os started H enc)

end Go.Proofs.Ytahkpabndfaoiaa
