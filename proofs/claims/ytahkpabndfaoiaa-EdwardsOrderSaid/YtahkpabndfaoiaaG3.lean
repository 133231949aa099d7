/-
What is known of the functions of points: the choice of nought, sums, what is opposite.
-/
import Derived.Test.YtahkpabndfaoiaaG2
namespace Go.Proofs.Ytahkpabndfaoiaa
open Eng Go Go.RowKit Go.Proofs Ec

theorem nil1_eq (x : Fin Ec.P) : nil1 x = decide (x = toF 0) := by
  unfold nil1
  rw [← zero_dig, eqL_fe]
theorem isNil_eq (p : X4) : isNil p = decide (p = ⟨toF 0, toF 0, toF 0, toF 0⟩) := by
  obtain ⟨x, y, z, t⟩ := p
  unfold isNil
  simp only [nil1_eq]
  generalize toF 0 = c
  rw [Bool.eq_iff_iff]
  simp
theorem nil_toF : X4.nil = ⟨toF 0, toF 0, toF 0, toF 0⟩ := by decide +kernel
theorem ptt_01 : eops.ptt (eops.small 0) (eops.small 1) = X4.nought := by decide +kernel

def specWhole : FnSpec := spec1 dP fun p => (.pv (ptP (X4.whole p)), [])
theorem whole_ok : SpecOK Try.prog 44 specWhole :=
  spec1_ok Try.func44 (by decide +kernel) (by kernel_rfl) T5_ok mixed (by kernel_rfl) fun p _ => by
    have h := whole_x eops p
    rw [ptt_01, isNil_eq, ← nil_toF] at h
    unfold X4.whole
    by_cases hp : p = X4.nil
    · rw [if_pos hp]
      rw [show decide (p = X4.nil) = true from decide_eq_true hp] at h
      exact ⟨_, _, _, h, ⟨w0, w1, trivial⟩, ptP_val _, ptP_val _⟩
    · rw [if_neg hp]
      rw [show decide (p = X4.nil) = false from decide_eq_false hp] at h
      exact ⟨_, _, _, h, trivial, ptP_val _, ptP_val _⟩

structure WOps extends EOps where
  whole : X4 → X4
def wops : WOps where
  toEOps := eops
  whole := X4.whole
def T6 (o : WOps) : List (FuncId × FnSpec) :=
  (44, spec1 dP fun p => (.pv (ptP (o.whole p)), [])) :: T5 o.toEOps
theorem T6_ok : TableOK Try.prog (lookT (T6 wops)) := tableOK_cons whole_ok T5_ok

def WOps.sub (o : WOps) (x y : Fin Ec.P) : Fin Ec.P := o.add x (o.neg y)
def WOps.add0 (o : WOps) (p q : X4) : X4 :=
  let a := o.mul (o.sub p.y p.x) (o.sub q.y q.x)
  let b := o.mul (o.add p.y p.x) (o.add q.y q.x)
  let c := o.mul (o.mul p.t q.t) o.d
  let c := o.add c c
  let d := o.mul p.z q.z
  let d := o.add d d
  let e := o.sub b a
  let f := o.sub d c
  let g := o.add d c
  let h := o.add b a
  ⟨o.mul e f, o.mul g h, o.mul f g, o.mul e h⟩
theorem add_x (o : WOps) (p q : X4) : callX Try.prog (lookT (T6 o)) 2000 Try.f22 [ptP p, ptP q] = some (.pv (ptP (o.add0 (o.whole p) (o.whole q))), []) := by kernel_rfl
theorem neg_x (o : WOps) (p : X4) : callX Try.prog (lookT (T6 o)) 2000 Try.f29 [ptP p] = some (.pv (ptP ⟨o.neg (o.whole p).x, (o.whole p).y, (o.whole p).z, o.neg (o.whole p).t⟩), []) := by kernel_rfl
theorem same_x (o : WOps) (p q : X4) : callX Try.prog (lookT (T6 o)) 2000 Try.f14 [ptP p, ptP q] =
   cond (o.eq (o.mul (o.whole p).x (o.whole q).z) (o.mul (o.whole q).x (o.whole p).z)) (some (.pv (bo (o.eq (o.mul (o.whole p).y (o.whole q).z) (o.mul (o.whole q).y (o.whole p).z))), [])) (some (.pv (bo false), [])) := by kernel_rfl
theorem even_x (o : WOps) (y : Fin Ec.P) : callX Try.prog (lookT (T6 o)) 2000 Try.f56 [feP y] =
   some (.tup [feP (o.root (o.sub (o.mul y y) (o.small 1)) (o.add (o.mul o.d (o.mul y y)) (o.small 1))).1, bo (o.root (o.sub (o.mul y y) (o.small 1)) (o.add (o.mul o.d (o.mul y y)) (o.small 1))).2], [Fw.W 1, Fw.W 1]) := by kernel_rfl
theorem flat_x (o : WOps) (p : X4) : callX Try.prog (lookT (T6 o)) 2000 Try.f51 [ptP p] =
   some (.tup [feP (o.mul (o.whole p).x (o.inv (o.whole p).z)), feP (o.mul (o.whole p).y (o.inv (o.whole p).z))], []) := by kernel_rfl

end Go.Proofs.Ytahkpabndfaoiaa
