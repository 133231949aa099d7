/-
What is known of the field's functions: bytes, comparisons, choices.
-/
import Derived.Test.YtahkpabndfaoiaaF4
import Derived.Test.YtahkpabndfaoiaaF5
import Derived.Test.YtahkpabndfaoiaaE14
namespace Go.Proofs.Ytahkpabndfaoiaa
open Eng Go Go.RowKit Go.Proofs

def specOf : FnSpec := spec1 dK fun n => (.pv (feP (toF (n % 57896044618658097711785492504343953926634992332820282019728792003956564819968))), [])
theorem of_x (n : Nat) : callX Try.prog (lookT R5) 3000 Try.f32 [keyP n] =
    let l := [Fw.byteW n 0, Fw.byteW n 1, Fw.byteW n 2, Fw.andI (Fw.byteW n 3) 9223372036854775807]
    some (.pv (feP (toF (num4 l).toNat)), [W4L l ∧ num4 l < 2 * Ec.P]) := by kernel_rfl
theorem of_ok : SpecOK Try.prog 32 specOf :=
  spec1_ok Try.func32 (by decide +kernel) (by kernel_rfl) R5_ok mixed (by kernel_rfl) fun n _ => by
    have hx := of_x n
    have hb : ∀ j, Fw.W (Fw.byteW n j) := fun j => by rw [Fw.byteW_spec]; exact Fw.dg_W _ _
    have hv := Fw.of_val n
    have h3 := hb 3
    have ha : Fw.W (Fw.andI (Fw.byteW n 3) 9223372036854775807) := by rw [Fw.and63 h3]; unfold Fw.W at *; omega
    have hP : (Ec.P : Int) = 57896044618658097711785492504343953926634992332820282019728792003956564819949 := Fw.P_lit
    have hn : num4 [Fw.byteW n 0, Fw.byteW n 1, Fw.byteW n 2, Fw.andI (Fw.byteW n 3) 9223372036854775807] = ((n % 57896044618658097711785492504343953926634992332820282019728792003956564819968 : Nat) : Int) := hv
    refine ⟨_, _, _, hx, ⟨⟨⟨_, _, _, _, rfl, hb 0, hb 1, hb 2, ha⟩, ?_⟩, trivial⟩, feP_val _, ?_⟩
    · rw [hn, hP]
      omega
    · rw [hn, Int.toNat_natCast]
      exact feP_val _

def specBytes : FnSpec := spec1 dE fun x => (.pv (keyP x.val), [])
theorem bytes_x (x : Fin Ec.P) : callX Try.prog (lookT R5) 3000 Try.f39 [feP x] = some (.pv (.agg (intsC .u8 ((List.range 32).map (Fw.cutB x.val)))), []) := by kernel_rfl
theorem bytes_ok : SpecOK Try.prog 39 specBytes :=
  spec1_ok Try.func39 (by decide +kernel) (by kernel_rfl) R5_ok mixed (by kernel_rfl) fun x _ => by
    refine ⟨_, _, _, bytes_x x, trivial, intsS_val _ _, ?_⟩
    have : (List.range 32).map (Fw.cutB x.val) = digI 8 x.val 32 := List.map_congr_left fun i _ => Fw.cutB_spec x.val i
    rw [this]
    exact keyP_val _

def specEq : FnSpec := spec2 dE dE fun x y => (.pv (bo (decide (x = y))), [])
theorem eq_x (x y : Fin Ec.P) : callX Try.prog (lookT R5) 300 Try.f45 [feP x, feP y] = some (.pv (bo (eqL (digI 64 x.val 4) (digI 64 y.val 4))), []) := by kernel_rfl
theorem eq_ok : SpecOK Try.prog 45 specEq :=
  spec2_ok Try.func45 (by decide +kernel) (by kernel_rfl) R5_ok mixed (by kernel_rfl) fun x y _ => by
    refine ⟨_, _, _, eq_x x y, trivial, rfl, ?_⟩
    rw [← eqL_fe, Bool.and_true]
    rfl

def specOdd : FnSpec := spec1 dE fun x => (.pv (bo (x.val % 2 == 1)), [])
theorem odd_x (x : Fin Ec.P) : callX Try.prog (lookT R5) 300 Try.f52 [feP x] = some (.pv (bo (Fw.andI (dg 64 x.val 0) 1 == 1)), []) := by kernel_rfl
theorem odd_ok : SpecOK Try.prog 52 specOdd :=
  spec1_ok Try.func52 (by decide +kernel) (by kernel_rfl) R5_ok mixed (by kernel_rfl) fun x _ => by
    refine ⟨_, _, _, odd_x x, trivial, rfl, ?_⟩
    rw [Fw.odd_dg]
    rfl

def specSel : FnSpec := spec3 dE dE dB fun x y s => (.pv (feP (cond s y x)), [])
def selW (x y : Fin Ec.P) (m : Int) : List Int := (List.range 4).map fun i => Fw.xorI (wd x i) (Fw.andI m (Fw.xorI (wd x i) (wd y i)))
theorem sel_x1 (x y : Fin Ec.P) : callX Try.prog (lookT R5) 1000 Try.f58 [feP x, feP y, bo true] = some (.pv (.agg (intsC .u64 (selW x y 18446744073709551615))), []) := by kernel_rfl
theorem sel_x0 (x y : Fin Ec.P) : callX Try.prog (lookT R5) 1000 Try.f58 [feP x, feP y, bo false] = some (.pv (.agg (intsC .u64 (selW x y 0))), []) := by kernel_rfl
theorem sel_ok : SpecOK Try.prog 58 specSel :=
  spec3_ok Try.func58 (by decide +kernel) (by kernel_rfl) R5_ok mixed (by kernel_rfl) fun x y s _ => by
    cases s with
    | true =>
      refine ⟨_, _, _, sel_x1 x y, trivial, intsS_val _ _, ?_⟩
      have : selW x y 18446744073709551615 = digI 64 y.val 4 := List.map_congr_left fun i _ => Fw.xor_ones (wd_W x i) (wd_W y i)
      rw [this]
      exact feP_val _
    | false =>
      refine ⟨_, _, _, sel_x0 x y, trivial, intsS_val _ _, ?_⟩
      have : selW x y 0 = digI 64 x.val 4 := List.map_congr_left fun i _ => Fw.xor_zero (wd_W x i) (wd_W y i)
      rw [this]
      exact feP_val _

/-- the field's operations, with nothing known of them -/
structure FOps where
  add : Fin Ec.P → Fin Ec.P → Fin Ec.P
  mul : Fin Ec.P → Fin Ec.P → Fin Ec.P
  neg : Fin Ec.P → Fin Ec.P
  of : Nat → Fin Ec.P
  num : Fin Ec.P → Nat
  small : Int → Fin Ec.P
  eq : Fin Ec.P → Fin Ec.P → Bool
  odd : Fin Ec.P → Bool
  sel : Fin Ec.P → Fin Ec.P → Bool → Fin Ec.P
  pow : Fin Ec.P → Nat → Fin Ec.P
  inv : Fin Ec.P → Fin Ec.P

def fops : FOps where
  add x y := x + y
  mul x y := x * y
  neg x := -x
  of n := toF (n % 57896044618658097711785492504343953926634992332820282019728792003956564819968)
  num x := x.val
  small n := toF n.toNat
  eq x y := decide (x = y)
  odd x := x.val % 2 == 1
  sel x y s := cond s y x
  pow x n := x ^ (n % 2 ^ 256)
  inv x := Ec.inv x

def T1 (o : FOps) : List (FuncId × FnSpec) := [
  (35, spec2 dE dE fun x y => (.pv (feP (o.add x y)), [])),
  (36, spec2 dE dE fun x y => (.pv (feP (o.mul x y)), [])),
  (80, spec1 dE fun x => (.pv (feP (o.mul x x)), [])),
  (37, spec2 dE dE fun x y => (.pv (feP (o.add x (o.neg y))), [])),
  (59, spec1 dE fun x => (.pv (feP (o.neg x)), [])),
  (32, spec1 dK fun n => (.pv (feP (o.of n)), [])),
  (39, spec1 dE fun x => (.pv (keyP (o.num x)), [])),
  (34, spec1 (dI .u64) fun n => (.pv (feP (o.small n)), [Fw.W n])),
  (45, spec2 dE dE fun x y => (.pv (bo (o.eq x y)), [])),
  (52, spec1 dE fun x => (.pv (bo (o.odd x)), [])),
  (58, spec3 dE dE dB fun x y s => (.pv (feP (o.sel x y s)), [])),
  (82, specPrime)]
theorem T1_ok : TableOK Try.prog (lookT (T1 fops)) :=
  tableOK_cons addE_ok (tableOK_cons mulE_ok (tableOK_cons sq_ok (tableOK_cons subE_ok (tableOK_cons negE_ok (tableOK_cons of_ok (tableOK_cons bytes_ok (tableOK_cons small_ok (tableOK_cons eq_ok (tableOK_cons odd_ok (tableOK_cons sel_ok (tableOK_cons prime_ok (tableOK_nil _))))))))))))

end Go.Proofs.Ytahkpabndfaoiaa
