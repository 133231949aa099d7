/-
The ladder: what its two steps come to.
-/
import Derived.Test.YtahkpabndfaoiaaUD
import Derived.Test.YtahkpabndfaoiaaUF

/- The ladder: what its two steps come to. -/
namespace Go.Proofs.Ytahkpabndfaoiaa
open Eng Go Go.RowKit Go.Proofs Ec

/-- where a ladder stands, as four numbers -/
theorem lswap_x (o : KOps) (s : X4) (b : Bool) (ty : TypeId) : callG Try.prog (lookT (T4 o)) 300 Try.f84 [0] [.one (.ptr 0 0 0), bo b] [⟨(ptP s).cells, ty, .var⟩] =
    some (([], [⟨(ptP ⟨o.sel s.x s.z b, o.sel s.y s.t b, o.sel s.z s.x b, o.sel s.t s.y b⟩).cells, ty, .var⟩]), []) := by kernel_rfl
def KOps.step (o : KOps) (s : X4) (x : Fin Ec.P) : X4 :=
  let sum := o.add s.x s.y
  let dif := o.add s.x (o.neg s.y)
  let u := o.mul sum sum
  let v := o.mul dif dif
  let e := o.add u (o.neg v)
  let m := o.mul (o.add s.z s.t) dif
  let n := o.mul (o.add s.z (o.neg s.t)) sum
  ⟨o.mul u v, o.mul e (o.add u (o.mul (o.small 121665) e)), o.mul (o.add m n) (o.add m n), o.mul x (o.mul (o.add m (o.neg n)) (o.add m (o.neg n)))⟩
theorem lstep_x (o : KOps) (s : X4) (x : Fin Ec.P) (ty : TypeId) : callG Try.prog (lookT (T4 o)) 300 Try.f85 [0] [.one (.ptr 0 0 0), feP x] [⟨(ptP s).cells, ty, .var⟩] =
    some (([], [⟨(ptP (o.step s x)).cells, ty, .var⟩]), [Fw.W 121665]) := by kernel_rfl
def KOps.swap (o : KOps) (s : X4) (b : Bool) : X4 := ⟨o.sel s.x s.z b, o.sel s.y s.t b, o.sel s.z s.x b, o.sel s.t s.y b⟩
theorem ptP_agg (x : X4) : ∃ cs, dP.can x = .agg cs := ⟨_, rfl⟩
theorem lswap_ok : GOK Try.prog 84 (gsMut dP dB kops.swap fun _ _ => []) :=
  gMut_ok T4_ok mixed Try.func84 (by decide +kernel) (by kernel_rfl) ptP_agg (by kernel_rfl) fun s b ty _ => .of (lswap_x kops s b ty) trivial
theorem w121665 : Fw.W 121665 := Fw.W_lit (by decide) (by decide)
theorem lstep_ok : GOK Try.prog 85 (gsMut dP dE kops.step fun _ _ => []) :=
  gMut_ok T4_ok mixed Try.func85 (by decide +kernel) (by kernel_rfl) ptP_agg (by kernel_rfl) fun s x ty _ => .of (lstep_x kops s x ty) ⟨w121665, trivial⟩
structure LaOps extends KOps where
  lswap : X4 → Bool → X4
  lstep : X4 → Fin Ec.P → X4
def laops : LaOps where
  toKOps := kops
  lswap := kops.swap
  lstep := kops.step
def T40 (o : LaOps) : Table := lookU [(84, gsMut dP dB o.lswap fun _ _ => []), (85, gsMut dP dE o.lstep fun _ _ => [])] [] (T4 o.toKOps)
theorem T40_ok : TableOK Try.prog (T40 laops) := tableU_cons lswap_ok (tableU_cons lstep_ok (tableU_plain T4_ok))

noncomputable abbrev lmF : Func := Try.f70
def andn8 (x m : Int) : Int := IntKind.wrap .u8 (BitVec.ofInt 8 x &&& ~~~BitVec.ofInt 8 m).toNat
def clampI (k : Nat) : List Int := andn8 (dg 8 k 0) 7 :: ((List.range 30).map fun i => dg 8 k (i + 1)) ++ [or8 (and8 (dg 8 k 31) 127) 64]
def clampC (k : Nat) : List Cell := .val (.int .u8 (andn8 (dg 8 k 0) 7)) :: ((List.range 30).map fun i => Cell.dg1 .u8 8 k (i + 1)) ++ [.val (.int .u8 (or8 (and8 (dg 8 k 31) 127) 64))]
def lmS (kc : List Cell) (x : Fin Ec.P) (st : List Cell) (i : Int) : St :=
  ⟨[.any, .any, ptv 2, .any, ptv 4, ptv 5, ptv 25] ++ List.replicate 19 .any ++ [.pv (iv i)] ++ List.replicate 34 .any,
  [[], [], [⟨kc, 23, .var⟩], [], [⟨intsC .u8 (List.replicate 32 0), 23, .var⟩], [⟨[.fe x], 27, .var⟩]] ++ List.replicate 19 [] ++ [[⟨st, 107, .var⟩]] ++ List.replicate 35 []⟩
def lmTd : Td := ⟨[2, 4, 5, 6, 26], [], [3]⟩
def st0 (one at_ : Fin Ec.P) : List Cell := [.fe one, .val (.int .u64 0), .val (.int .u64 0), .val (.int .u64 0), .val (.int .u64 0), .fe at_, .fe one]
section
variable (o : LaOps)
theorem lm_first (k n : Nat) : runS Try.prog (T40 o) lmF 1 lmTd 300 [.code (bodyOf lmF)] (Eng.start lmF.ntmps [keyP k, keyP n]) =
    some (.at (.code (.loop (hd lmF).1) :: (hd lmF).2) (lmS (clampC k) (o.of n) (st0 (o.small 1) (o.of n)) 0), [Fw.W 1, Fw.W 1]) := by kernel_rfl
def LaOps.rung (o : LaOps) (x : Fin Ec.P) (s : X4) (b : Bool) : X4 := o.lswap (o.lstep (o.lswap s b) x) b
end
end Go.Proofs.Ytahkpabndfaoiaa
