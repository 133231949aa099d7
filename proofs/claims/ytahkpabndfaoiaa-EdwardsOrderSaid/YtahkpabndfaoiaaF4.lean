/-
What is known of the field's functions: products, differences, squares.
-/
import Derived.Test.YtahkpabndfaoiaaF3
namespace Go.Proofs.Ytahkpabndfaoiaa
open Eng Go Go.RowKit Go.Proofs

def macOb (l : List Prop) (p : Int × Int) : List Prop := ((0 : Int).toNat ≤ 1) :: ((0 : Int).toNat ≤ 1) :: Fw.W p.1 :: Fw.W p.2 :: l
theorem macOb_all : ∀ (ps : List (Int × Int)) (l : List Prop), AllP l → (∀ p ∈ ps, Fw.W p.1 ∧ Fw.W p.2) → AllP (ps.foldl macOb l)
  | [], l, h, _ => h
  | p :: ps, l, h, hp => macOb_all ps _ (⟨by decide, by decide, (hp p (.head _)).1, (hp p (.head _)).2, h⟩ : AllP (_ :: _ :: _ :: _ :: _)) fun q hq => hp q (.tail _ hq)

def specMulE : FnSpec := spec2 dE dE fun x y => (.pv (feP (x * y)), [])

theorem mulE_x (x y : Fin Ec.P) : callX Try.prog (lookT R4) 1000 Try.f36 [feP x, feP y] =
    let x0 := wd x 0
    let x1 := wd x 1
    let x2 := wd x 2
    let x3 := wd x 3
    let y0 := wd y 0
    let y1 := wd y 1
    let y2 := wd y 2
    let y3 := wd y 3
    match Fw.mul8 x0 x1 x2 x3 y0 y1 y2 y3 with
    | [l0, l1, l2, l3, h0, h1, h2, h3] =>
      match Fw.redW l0 l1 l2 l3 h0 h1 h2 h3 with
      | [r0, r1, r2, r3, o] => some (.pv (feP (toF (num4 [r0, r1, r2, r3] + 115792089237316195423570985008687907853269984665640564039457584007913129639936 * o).toNat)),
          (W4L [r0, r1, r2, r3] ∧ Fw.W o) :: [(x0, y0), (x0, y1), (x0, y2), (x0, y3), (x1, y0), (x1, y1), (x1, y2), (x1, y3), (x2, y0), (x2, y1), (x2, y2), (x2, y3), (x3, y0), (x3, y1), (x3, y2), (x3, y3), (h0, 38), (h1, 38), (h2, 38), (h3, 38)].foldl macOb [])
      | _ => none
    | _ => none := by kernel_rfl

theorem toF_mul {m : Nat} (h : 0 < m) (x y : Fin m) {n : Nat} (e : n % m = x.val * y.val % m) : x * y = ⟨n % m, Nat.mod_lt _ h⟩ := by
  refine Fin.ext ?_
  rw [Fin.val_mul]
  exact e.symm

theorem mulE_ok : SpecOK Try.prog 36 specMulE :=
  spec2_ok Try.func36 (by decide +kernel) (by kernel_rfl) R4_ok mixed (by kernel_rfl) fun x y _ => by
    obtain ⟨l0, l1, l2, l3, h0, h1, h2, h3, e8, hl, hh, hv⟩ := Fw.mul8_spec ⟨wd_W x 0, wd_W x 1, wd_W x 2, wd_W x 3⟩ ⟨wd_W y 0, wd_W y 1, wd_W y 2, wd_W y 3⟩
    obtain ⟨r0, r1, r2, r3, o, er, ⟨w0, w1, w2, w3, wo⟩, hr⟩ := Fw.redW_spec hl hh
    have hx := mulE_x x y
    simp only [e8, er] at hx
    rw [val4_fe, val4_fe] at hv
    have w38 : Fw.W 38 := Fw.W_lit (by decide) (by decide)
    have hp := macOb_all [(wd x 0, wd y 0), (wd x 0, wd y 1), (wd x 0, wd y 2), (wd x 0, wd y 3), (wd x 1, wd y 0), (wd x 1, wd y 1), (wd x 1, wd y 2), (wd x 1, wd y 3), (wd x 2, wd y 0), (wd x 2, wd y 1), (wd x 2, wd y 2), (wd x 2, wd y 3), (wd x 3, wd y 0), (wd x 3, wd y 1), (wd x 3, wd y 2), (wd x 3, wd y 3), (h0, 38), (h1, 38), (h2, 38), (h3, 38)] [] trivial (by
      simp only [List.forall_mem_cons, wd_W, hh.1, hh.2.1, hh.2.2.1, hh.2.2.2, w38, true_and, and_true]
      simp)
    refine ⟨_, _, _, hx, ⟨⟨⟨r0, r1, r2, r3, rfl, w0, w1, w2, w3⟩, wo⟩, hp⟩, feP_val _, ?_⟩
    have hn := Fw.val4_nn w0 w1 w2 w3
    have hh' := Fw.val4_nn hh.1 hh.2.1 hh.2.2.1 hh.2.2.2
    have hl' := Fw.val4_nn hl.1 hl.2.1 hl.2.2.1 hl.2.2.2
    have hP : (Ec.P : Int) = 57896044618658097711785492504343953926634992332820282019728792003956564819949 := Fw.P_lit
    have key := Fw.fold_mod (N := x.val * y.val) (V := num4 [r0, r1, r2, r3] + 115792089237316195423570985008687907853269984665640564039457584007913129639936 * o) (q := 2 * Fw.val4 h0 h1 h2 h3) (by
      show _ = Fw.val4 r0 r1 r2 r3 + _ + _
      rw [hv, hP, ← hr]; omega) (Int.mul_nonneg (Int.natCast_nonneg _) (Int.natCast_nonneg _)) (by
      show 0 ≤ Fw.val4 r0 r1 r2 r3 + _
      unfold Fw.W at wo; omega) (by omega)
    have : x * y = toF (num4 [r0, r1, r2, r3] + 115792089237316195423570985008687907853269984665640564039457584007913129639936 * o).toNat := toF_mul (by decide) x y (by
      rw [← key, ← Int.natCast_mul, Int.toNat_natCast])
    show (SV.pv (feP (x * y))).val? = _
    rw [this]
    rfl

def specSq : FnSpec := spec1 dE fun x => (.pv (feP (x * x)), [])
def specSub : FnSpec := spec2 dE dE fun x y => (.pv (feP (x + -y)), [])
def R5 : List (FuncId × FnSpec) := (36, specMulE) :: R4
theorem R5_ok : TableOK Try.prog (lookT R5) := tableOK_cons mulE_ok R4_ok
theorem sq_x (x : Fin Ec.P) : callX Try.prog (lookT R5) 100 Try.f80 [feP x] = some (.pv (feP (x * x)), []) := by kernel_rfl
theorem sq_ok : SpecOK Try.prog 80 specSq :=
  spec1_ok Try.func80 (by decide +kernel) (by kernel_rfl) R5_ok mixed (by kernel_rfl) fun x _ => .of (sq_x x) trivial (feP_val _)
theorem subE_x (x y : Fin Ec.P) : callX Try.prog (lookT R5) 100 Try.f37 [feP x, feP y] = some (.pv (feP (x + -y)), []) := by kernel_rfl
theorem subE_ok : SpecOK Try.prog 37 specSub :=
  spec2_ok Try.func37 (by decide +kernel) (by kernel_rfl) R5_ok mixed (by kernel_rfl) fun x y _ => .of (subE_x x y) trivial (feP_val _)

end Go.Proofs.Ytahkpabndfaoiaa
