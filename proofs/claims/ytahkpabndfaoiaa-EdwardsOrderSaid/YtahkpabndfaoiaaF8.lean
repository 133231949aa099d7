/-
What is known of the field's functions: powers, inverses, roots.
-/
import Derived.Test.YtahkpabndfaoiaaF7
namespace Go.Proofs.Ytahkpabndfaoiaa
open Eng Go Go.RowKit Go.Proofs

def specPow : FnSpec := spec2 dE dK fun x e => (.pv (feP (x ^ (e % 2 ^ 256))), [])
theorem one_toF : toF ((1 : Int).toNat) = 1 := rfl
theorem pow_ok : SpecOK Try.prog 68 specPow :=
  spec2_calls Try.func68 (by decide +kernel) (by kernel_rfl) fun x e _ va vb ha hb => by
    refine ⟨_, feP_val _, fun w => ?_⟩
    refine loopCalls (m := 300) (fn := Try.f68) (T1_ok) mixed Try.func68 (by kernel_rfl) 256 (powS fops x e) (fun i r => r = x ^ top e i) (by simp only [pvVals]; rw [show (feP x).val? = some va from ha, show (keyP e).val? = some vb from hb]) (by kernel_rfl) ⟨_, _, pow_first fops x e, ⟨Fw.W_lit (by decide) (by decide), trivial⟩, ?_⟩ ?_ ?_ w
    · rw [top_zero, pow_nil]; exact one_toF
    · intro i r hi hr
      have h := map_range_eq (pow_rounds fops x r e) hi
      rw [h]
      rw [top_succ e i hi]
      subst hr
      cases bitAt e i with
      | true => exact ⟨_, _, rfl, trivial, pow_dbl1 _ _⟩
      | false => exact ⟨_, _, rfl, trivial, pow_dbl _ _⟩
    · intro r hr
      subst hr
      refine ⟨_, _, pow_last fops x _ e, trivial, ?_⟩
      rw [top_all]
      exact feP_val _

/-- (p + a) / 2^s -/
def expN (a s : Int) : Nat := (57896044618658097711785492504343953926634992332820282019728792003956564819949 + a).toNat / 2 ^ s.toNat
def expOk (a s : Int) : Prop := (a = -2 ∧ s = 0) ∨ (a = 3 ∧ s = 3) ∨ (a = -1 ∧ s = 2)
def specExp : FnSpec := spec2 (dI .i64) (dI .i64) fun a s => (.pv (keyP (expN a s)), [expOk a s])
theorem exp_x1 : callX Try.prog (lookT (T1 fops)) 3000 Try.f69 [iv (-2), iv 0] = some (.pv (keyP (toF 57896044618658097711785492504343953926634992332820282019728792003956564819947).val), [W4 18446744073709551595 18446744073709551615 18446744073709551615 9223372036854775807 ∧ Fw.val4 18446744073709551595 18446744073709551615 18446744073709551615 9223372036854775807 < Ec.P]) := by kernel_rfl
theorem exp_v1 : (toF 57896044618658097711785492504343953926634992332820282019728792003956564819947).val = expN (-2) 0 := by decide +kernel
theorem exp_o1 : W4 18446744073709551595 18446744073709551615 18446744073709551615 9223372036854775807 ∧ Fw.val4 18446744073709551595 18446744073709551615 18446744073709551615 9223372036854775807 < Ec.P := by unfold W4 Fw.W; rw [Fw.P_lit]; unfold Fw.val4; omega
theorem exp_x2 : callX Try.prog (lookT (T1 fops)) 3000 Try.f69 [iv 3, iv 3] = some (.pv (keyP (toF 7237005577332262213973186563042994240829374041602535252466099000494570602494).val), [W4 18446744073709551614 18446744073709551615 18446744073709551615 1152921504606846975 ∧ Fw.val4 18446744073709551614 18446744073709551615 18446744073709551615 1152921504606846975 < Ec.P]) := by kernel_rfl
theorem exp_v2 : (toF 7237005577332262213973186563042994240829374041602535252466099000494570602494).val = expN 3 3 := by decide +kernel
theorem exp_o2 : W4 18446744073709551614 18446744073709551615 18446744073709551615 1152921504606846975 ∧ Fw.val4 18446744073709551614 18446744073709551615 18446744073709551615 1152921504606846975 < Ec.P := by unfold W4 Fw.W; rw [Fw.P_lit]; unfold Fw.val4; omega
theorem exp_x3 : callX Try.prog (lookT (T1 fops)) 3000 Try.f69 [iv (-1), iv 2] = some (.pv (keyP (toF 14474011154664524427946373126085988481658748083205070504932198000989141204987).val), [W4 18446744073709551611 18446744073709551615 18446744073709551615 2305843009213693951 ∧ Fw.val4 18446744073709551611 18446744073709551615 18446744073709551615 2305843009213693951 < Ec.P]) := by kernel_rfl
theorem exp_v3 : (toF 14474011154664524427946373126085988481658748083205070504932198000989141204987).val = expN (-1) 2 := by decide +kernel
theorem exp_o3 : W4 18446744073709551611 18446744073709551615 18446744073709551615 2305843009213693951 ∧ Fw.val4 18446744073709551611 18446744073709551615 18446744073709551615 2305843009213693951 < Ec.P := by unfold W4 Fw.W; rw [Fw.P_lit]; unfold Fw.val4; omega
theorem exp_ok : SpecOK Try.prog 69 specExp :=
  spec2_ok Try.func69 (by decide +kernel) (by kernel_rfl) T1_ok mixed (by kernel_rfl) fun a s h => by
    rcases h.1 with ⟨rfl, rfl⟩ | ⟨rfl, rfl⟩ | ⟨rfl, rfl⟩
    · exact ⟨_, _, _, exp_x1, ⟨exp_o1, trivial⟩, keyP_val _, by rw [exp_v1]; exact keyP_val _⟩
    · exact ⟨_, _, _, exp_x2, ⟨exp_o2, trivial⟩, keyP_val _, by rw [exp_v2]; exact keyP_val _⟩
    · exact ⟨_, _, _, exp_x3, ⟨exp_o3, trivial⟩, keyP_val _, by rw [exp_v3]; exact keyP_val _⟩

def T2 (o : FOps) : List (FuncId × FnSpec) :=
  (68, spec2 dE dK fun x e => (.pv (feP (o.pow x e)), [])) ::
  (69, specExp) :: T1 o
theorem T2_ok : TableOK Try.prog (lookT (T2 fops)) := tableOK_cons pow_ok (tableOK_cons exp_ok T1_ok)

theorem inv_x (o : FOps) (x : Fin Ec.P) : callX Try.prog (lookT (T2 o)) 100 Try.f38 [feP x] = some (.pv (feP (o.pow x (expN (-2) 0))), [expOk (-2) 0]) := by kernel_rfl
theorem expN_lt1 : expN (-2) 0 % 2 ^ 256 = Ec.P - 2 := by decide +kernel
def specInv : FnSpec := spec1 dE fun x => (.pv (feP (Ec.inv x)), [])
theorem inv_ok : SpecOK Try.prog 38 specInv :=
  spec1_ok Try.func38 (by decide +kernel) (by kernel_rfl) T2_ok mixed (by kernel_rfl) fun x _ => by
    refine ⟨_, _, _, inv_x fops x, ⟨.inl ⟨rfl, rfl⟩, trivial⟩, feP_val _, ?_⟩
    have : fops.pow x (expN (-2) 0) = Ec.inv x := congrArg (fun n => x ^ n) expN_lt1
    rw [this]
    exact feP_val _

def T3 (o : FOps) : List (FuncId × FnSpec) :=
  (38, spec1 dE fun x => (.pv (feP (o.inv x)), [])) :: T2 o
theorem T3_ok : TableOK Try.prog (lookT (T3 fops)) := tableOK_cons inv_ok T2_ok

def FOps.rootQ (o : FOps) (u v : Fin Ec.P) : Fin Ec.P := o.pow (o.mul u (o.inv v)) (expN 3 3)
def FOps.rootX (o : FOps) (u v : Fin Ec.P) : Fin Ec.P := o.mul (o.rootQ u v) (o.pow (o.small 2) (expN (-1) 2))
def FOps.isR (o : FOps) (u v x : Fin Ec.P) : Bool := o.eq (o.mul v (o.mul x x)) u
def FOps.even (o : FOps) (x : Fin Ec.P) : Fin Ec.P := o.sel x (o.neg x) (o.odd x)
theorem root_x (o : FOps) (u v : Fin Ec.P) : callX Try.prog (lookT (T3 o)) 300 Try.f81 [feP u, feP v] =
    cond (!o.isR u v (o.rootQ u v))
      (cond (!o.isR u v (o.rootX u v)) (some (.tup [.agg (intsC .u64 [0, 0, 0, 0]), bo false], [Fw.W 2, expOk (-1) 2, expOk 3 3])) (some (.tup [feP (o.even (o.rootX u v)), bo true], [Fw.W 2, expOk (-1) 2, expOk 3 3])))
      (cond (!o.isR u v (o.rootQ u v)) (some (.tup [.agg (intsC .u64 [0, 0, 0, 0]), bo false], [expOk 3 3])) (some (.tup [feP (o.even (o.rootQ u v)), bo true], [expOk 3 3]))) := by kernel_rfl
/-- the even root, and is there one? -/
def FOps.root (o : FOps) (u v : Fin Ec.P) : Fin Ec.P × Bool :=
  cond (o.isR u v (o.rootQ u v)) (o.even (o.rootQ u v), true) (cond (o.isR u v (o.rootX u v)) (o.even (o.rootX u v), true) (toF 0, false))
def specRoot : FnSpec := spec2 dE dE fun u v => (.tup [feP (fops.root u v).1, bo (fops.root u v).2], [])
theorem zero_dig : digI 64 (toF 0).val 4 = [0, 0, 0, 0] := by decide +kernel
theorem zero_val : (PV.agg (intsC .u64 [0, 0, 0, 0])).val? = some (feV (toF 0)) := by
  unfold feV
  rw [zero_dig]
  exact intsP_val _ _
theorem root_ok : SpecOK Try.prog 81 specRoot :=
  spec2_ok Try.func81 (by decide +kernel) (by kernel_rfl) T3_ok mixed (by kernel_rfl) fun u v _ => by
    have hx := root_x fops u v
    have o1 : expOk 3 3 := .inr (.inl ⟨rfl, rfl⟩)
    have o2 : expOk (-1) 2 := .inr (.inr ⟨rfl, rfl⟩)
    have w2 : Fw.W 2 := Fw.W_lit (by decide) (by decide)
    unfold FOps.root
    generalize fops.isR u v (fops.rootQ u v) = c1 at hx
    generalize fops.isR u v (fops.rootX u v) = c2 at hx
    generalize fops.even (fops.rootQ u v) = r1 at hx
    generalize fops.even (fops.rootX u v) = r2 at hx
    cases c1 with
    | true => exact ⟨_, _, _, hx, ⟨o1, trivial⟩, rfl, rfl⟩
    | false =>
      cases c2 with
      | true => exact ⟨_, _, _, hx, ⟨w2, o2, o1, trivial⟩, rfl, rfl⟩
      | false =>
        refine ⟨_, _, .tuple #[feV (toF 0), .bool false], hx, ⟨w2, o2, o1, trivial⟩, ?_, rfl⟩
        simp only [SV.val?, pvVals, zero_val]
        rfl

end Go.Proofs.Ytahkpabndfaoiaa
