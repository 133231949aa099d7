/-
What is so often the base as the order says is nought, and numbers that are the same modulo the order come to the same point: the row, proved.
-/
import Derived.Test.YtahkpabndfaoiaaR1
namespace Go.Proofs.Ytahkpabndfaoiaa
open Go.ChangeShapes Go.WideShapes Go.ChangeAt Go.RowKit Eng

theorem eorder_calls (k : Nat) {t : Int} (ht : 0 ≤ t ∧ t < 256) (w : World) : Calls Try.prog 3 #[keyV k, .int .u8 t] w fun e w' => e = .returned (.bool true) ∧ Below w.heap.size w w' := by
  obtain ⟨sv', ob, v, h1, h2, h3, h4⟩ := eorder_m k ht
  have hv : v = .bool true := (Option.some.inj h4).symm
  subst hv
  exact calls_of_exec T12_ok mixed Try.func3 (ps := [keyP k, .one (.val (.int .u8 t))]) (vals := [keyV k, .int .u8 t]) rfl (by kernel_rfl) h1 h2 h3 w

theorem zkey_ok : (Value.agg (Array.replicate 32 (.int .u8 0))) = .agg (Array.replicate 32 (.int .u8 0)) := rfl

set_option maxRecDepth 100000 in
theorem eorder_lifted (os : Os) (started : os.Started) (H : Type) (enc : TypeId × Value → H) :
    ReturnsInHanded {} Try.checked os 3 .any (Rows.edwardsOrderSpec.pre6 enc Try.prog Try.f3 Rows.edwardsOrderRow.domain false) (Rows.edwardsOrderSpec.post enc Try.prog Try.f3 false true false false) := by
  refine returnsInHanded_of_change (C := Try.checked) own started (by kernel_rfl) Try.func3
    (ChangeSpec.witness6 (enc := enc) (C := Try.checked) false ⟨#[], #[.agg (Array.replicate 32 (.int .u8 0)), .int .u8 0], []⟩ 8 (by kernel_rfl) (by kernel_rfl) (by kernel_rfl) (by kernel_rfl)) ?_
  intro W base args ds gs before hval0 hW hcnd _
  have hval : ∀ (j : Nat) t v, Try.f3.params[j]? = some t → args[j]? = some v → Value.okWide Try.prog W .any base t v := hval0
  have hW' := hW
  obtain ⟨p, q, hA0, hV, rfl, hfz, hnd⟩ := hW
  have hA : DataW.TrodAll enc Try.prog W 0 (fun _ => true) true Try.f3.params.toList args.toList ds p := hA0
  have hpar : Try.f3.params = #[23, 5] := by kernel_rfl
  rw [hpar] at hA hval
  obtain ⟨v0, v1, d0, d1, p0, p1, rfl, rfl, rfl, h0, h1⟩ := trodAll_two hA
  obtain ⟨rfl, rfl⟩ := trodVars_none hV
  obtain ⟨k, rfl, rfl, rfl⟩ := open_key (hval 0 23 v0 rfl rfl) h0
  obtain ⟨t, rfl, rfl, rfl, wt⟩ := open_int und_byte (hval 1 5 v1 rfl rfl) h1
  clear hA0 hval0
  simp only [List.append_nil] at hW'
  have ht := bounds_u8 wt
  refine (eorder_calls k (t := t) ⟨ht.1, by omega⟩ W).mono fun e W' ⟨he, hb⟩ => ?_
  subst he
  exact ⟨_, rfl, post_plain hW' (fun _ _ _ => trodAll_mk1 (shut_bool und_bool true)) (fun sp => trodAll_mk2 (shut_key k) (shut_int und_byte wt)) (fun _ => rfl) (hb.frame _) (ok_one (by kernel_rfl) rfl (okWide_bool_mk und_bool true))⟩

theorem edwardsOrder_holds : Rows.EdwardsOrderSaid :=
  OpenClaim.holds_of_wide 3 Try.f3 rfl rfl rfl rfl rfl rfl rfl ⟨rfl, rfl, rfl, rfl, rfl⟩ rfl rfl rfl rfl rfl (by kernel_rfl) Try.func3 (by kernel_rfl)
    (of_decide_eq_true (by kernel_rfl)) (by unfold Func.isWrapper; first | (rw [if_pos (by decide +kernel)]; kernel_rfl) | (rw [if_neg (by decide +kernel)]; exact ⟨rfl, rfl⟩))
    (fun os started H enc _ => eorder_lifted os started H enc)

end Go.Proofs.Ytahkpabndfaoiaa
