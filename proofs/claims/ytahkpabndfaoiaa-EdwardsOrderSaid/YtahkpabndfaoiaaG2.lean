/-
What is known of the functions of points: numbers, the choice of nought, sums, what is opposite.
-/
import Derived.Test.YtahkpabndfaoiaaG1
namespace Go.Proofs.Ytahkpabndfaoiaa
open Eng Go Go.RowKit Go.Proofs Ec

def FOps.pt (o : FOps) (x y : Fin Ec.P) : X4 := ⟨x, y, o.small 1, o.mul x y⟩
theorem point_x (o : KOps) (x y : Fin Ec.P) : callX Try.prog (lookT (T4 o)) 300 Try.f57 [feP x, feP y] = some (.pv (ptP (o.pt x y)), [Fw.W 1]) := by kernel_rfl
def specPoint : FnSpec := spec2 dE dE fun x y => (.pv (ptP (fops.pt x y)), [])
theorem w0 : Fw.W 0 := Fw.W_lit (by decide) (by decide)
theorem w1 : Fw.W 1 := Fw.W_lit (by decide) (by decide)
theorem point_ok : SpecOK Try.prog 57 specPoint :=
  spec2_ok Try.func57 (by decide +kernel) (by kernel_rfl) T4_ok mixed (by kernel_rfl) fun x y _ => ⟨_, _, _, point_x kops x y, ⟨w1, trivial⟩, ptP_val _, ptP_val _⟩

/-- the curve's number, as bytes -/
def dNat : Nat := 37095705934669439343138083508754565189542113879843219016388785533085940283555
theorem const_x (o : KOps) : callX Try.prog (lookT (T4 o)) 300 Try.f54 [] = some (.pv (feP (o.of dNat)), [∀ a ∈ digI 8 dNat 32, 0 ≤ a ∧ a < 256]) := by kernel_rfl

theorem d_bytes : ∀ a ∈ digI 8 dNat 32, 0 ≤ a ∧ a < 256 := fun a ha => by
  obtain ⟨i, _, rfl⟩ := List.mem_map.1 ha
  exact dg_nn 8 _ _
theorem d_of : fops.of dNat = Ec.D := by decide +kernel
def spec0' (res : SV) : FnSpec := fun ps => match ps with
    | [] => some (res, [])
    | _ => none
theorem const_ok : SpecOK Try.prog 54 (spec0 (.pv (feP Ec.D))) :=
  spec0_ok (n := 300) Try.func54 (by decide +kernel) (by kernel_rfl) T4_ok mixed ⟨_, _, _, const_x kops, ⟨d_bytes, trivial⟩, feP_val _, by
    have : kops.of dNat = Ec.D := d_of
    rw [this]
    exact feP_val _⟩

/-- the same, and points, even roots, with nothing known of them -/
structure EOps extends KOps where
  d : Fin Ec.P
  ptt : Fin Ec.P → Fin Ec.P → X4
def eops : EOps where
  toKOps := kops
  d := Ec.D
  ptt := fops.pt
def T5 (o : EOps) : List (FuncId × FnSpec) :=
  (57, spec2 dE dE fun x y => (.pv (ptP (o.ptt x y)), [])) ::
  (54, spec0 (.pv (feP o.d))) :: T4 o.toKOps
theorem T5_ok : TableOK Try.prog (lookT (T5 eops)) := tableOK_cons point_ok (tableOK_cons const_ok T4_ok)

def nil1 (x : Fin Ec.P) : Bool := eqL (digI 64 x.val 4) [0, 0, 0, 0] && true
def isNil (p : X4) : Bool := nil1 p.x && (nil1 p.y && (nil1 p.z && (nil1 p.t && true)))
theorem whole_x (o : EOps) (p : X4) : callX Try.prog (lookT (T5 o)) 300 Try.f44 [ptP p] =
    cond (isNil p) (some (.pv (ptP (o.ptt (o.small 0) (o.small 1))), [Fw.W 0, Fw.W 1])) (some (.pv (ptP p), [])) := by kernel_rfl

end Go.Proofs.Ytahkpabndfaoiaa
