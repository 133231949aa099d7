/-
What is known of the functions of points: sums, what is opposite, what is the same, x and y.
-/
import Derived.Test.YtahkpabndfaoiaaG3
namespace Go.Proofs.Ytahkpabndfaoiaa
open Eng Go Go.RowKit Go.Proofs Ec

theorem sub_eq' {n : Nat} [NeZero n] (x y : Fin n) : x + -y = x - y := by grind
theorem wsub (x y : Fin Ec.P) : wops.sub x y = x - y := sub_eq' x y
theorem wadd (x y : Fin Ec.P) : wops.add x y = x + y := rfl
theorem wmul (x y : Fin Ec.P) : wops.mul x y = x * y := rfl
theorem wneg (x : Fin Ec.P) : wops.neg x = -x := rfl
theorem winv (x : Fin Ec.P) : wops.inv x = Ec.inv x := rfl
theorem weq (x y : Fin Ec.P) : wops.eq x y = decide (x = y) := rfl
theorem wwhole (p : X4) : wops.whole p = X4.whole p := rfl
theorem wcd : wops.d = Ec.D := rfl
theorem wone : wops.small 1 = 1 := one_toF
theorem wroot (x y : Fin Ec.P) : wops.root x y = fops.root x y := by dsimp only [wops, eops, kops]

theorem wadd0 (p q : X4) : wops.add0 p q = X4.add0 p q := by
  unfold WOps.add0 X4.add0
  simp only [wsub, wadd, wmul, wcd]

def specAddP : FnSpec := spec2 dP dP fun p q => (.pv (ptP (X4.add p q)), [])
theorem addP_ok : SpecOK Try.prog 22 specAddP :=
  spec2_ok Try.func22 (by decide +kernel) (by kernel_rfl) T6_ok mixed (by kernel_rfl) fun p q _ => by
    have h := add_x wops p q
    rw [wadd0] at h
    exact ⟨_, _, _, h, trivial, ptP_val _, ptP_val _⟩

def specNegP : FnSpec := spec1 dP fun p => (.pv (ptP (X4.neg p)), [])
theorem negP_ok : SpecOK Try.prog 29 specNegP :=
  spec1_ok Try.func29 (by decide +kernel) (by kernel_rfl) T6_ok mixed (by kernel_rfl) fun p _ =>
    ⟨_, _, _, neg_x wops p, trivial, ptP_val _, ptP_val _⟩

def specSameP : FnSpec := spec2 dP dP fun p q => (.pv (bo (X4.same p q)), [])
theorem sameP_ok : SpecOK Try.prog 14 specSameP :=
  spec2_ok Try.func14 (by decide +kernel) (by kernel_rfl) T6_ok mixed (by kernel_rfl) fun p q _ => by
    have h := same_x wops p q
    simp only [weq, wmul, wwhole] at h
    unfold X4.same
    generalize decide (p.whole.x * q.whole.z = q.whole.x * p.whole.z) = c1 at *
    generalize decide (p.whole.y * q.whole.z = q.whole.y * p.whole.z) = c2 at *
    cases c1 with
    | true => exact ⟨_, _, _, h, trivial, rfl, rfl⟩
    | false => exact ⟨_, _, _, h, trivial, rfl, rfl⟩

/-- the even x of a y, and is there one? -/
def evenOf (y : Fin Ec.P) : Fin Ec.P × Bool := fops.root (y * y - 1) (Ec.D * (y * y) + 1)
def specEven : FnSpec := spec1 dE fun y => (.tup [feP (evenOf y).1, bo (evenOf y).2], [])
theorem even_ok : SpecOK Try.prog 56 specEven :=
  spec1_ok Try.func56 (by decide +kernel) (by kernel_rfl) T6_ok mixed (by kernel_rfl) fun y _ => by
    have h := even_x wops y
    simp only [wsub, wmul, wadd, wcd, wone, wroot] at h
    have e : fops.root (y * y - 1) (Ec.D * (y * y) + 1) = evenOf y := by unfold evenOf; rfl
    rw [e] at h
    exact ⟨_, _, _, h, ⟨w1, w1, trivial⟩, rfl, rfl⟩

def flatOf (p : X4) : Fin Ec.P × Fin Ec.P := (p.whole.x * Ec.inv p.whole.z, p.whole.y * Ec.inv p.whole.z)
def specFlat : FnSpec := spec1 dP fun p => (.tup [feP (flatOf p).1, feP (flatOf p).2], [])
theorem flat_ok : SpecOK Try.prog 51 specFlat :=
  spec1_ok Try.func51 (by decide +kernel) (by kernel_rfl) T6_ok mixed (by kernel_rfl) fun p _ =>
    ⟨_, _, _, flat_x wops p, trivial, rfl, rfl⟩

/-- the same, and sums, with nothing known of them -/
structure AOps extends WOps where
  padd : X4 → X4 → X4
  pneg : X4 → X4
  same : X4 → X4 → Bool
  evn : Fin Ec.P → Fin Ec.P × Bool
  flat : X4 → Fin Ec.P × Fin Ec.P
def aops : AOps where
  toWOps := wops
  padd := X4.add
  pneg := X4.neg
  same := X4.same
  evn := evenOf
  flat := flatOf
def T7 (o : AOps) : List (FuncId × FnSpec) :=
  (22, spec2 dP dP fun p q => (.pv (ptP (o.padd p q)), [])) ::
  (29, spec1 dP fun p => (.pv (ptP (o.pneg p)), [])) ::
  (14, spec2 dP dP fun p q => (.pv (bo (o.same p q)), [])) ::
  (56, spec1 dE fun y => (.tup [feP (o.evn y).1, bo (o.evn y).2], [])) ::
  (51, spec1 dP fun p => (.tup [feP (o.flat p).1, feP (o.flat p).2], [])) :: T6 o.toWOps
theorem T7_ok : TableOK Try.prog (lookT (T7 aops)) :=
  tableOK_cons addP_ok (tableOK_cons negP_ok (tableOK_cons sameP_ok (tableOK_cons even_ok (tableOK_cons flat_ok T6_ok))))

def and8 (x m : Int) : Int := IntKind.wrap .u8 (BitVec.ofInt 8 x &&& BitVec.ofInt 8 m).toNat
def or8 (x m : Int) : Int := IntKind.wrap .u8 (BitVec.ofInt 8 x ||| BitVec.ofInt 8 m).toNat
def shr8 (x n : Int) : Int := x.fdiv (2 ^ (min n.toNat 8))

theorem x_x (o : AOps) (p : X4) : callX Try.prog (lookT (T7 o)) 2000 Try.f26 [ptP p] = some (.pv (keyP (o.num (o.flat p).1)), []) := by kernel_rfl
theorem y_x (o : AOps) (p : X4) : callX Try.prog (lookT (T7 o)) 2000 Try.f27 [ptP p] = some (.pv (keyP (o.num (o.flat p).2)), []) := by kernel_rfl
theorem base_x (o : AOps) : callX Try.prog (lookT (T7 o)) 2000 Try.f43 [] = some (.pv (ptP (o.ptt (o.evn (o.mul (o.small 4) (o.inv (o.small 5)))).1 (o.mul (o.small 4) (o.inv (o.small 5))))), [Fw.W 4, Fw.W 5]) := by kernel_rfl
theorem ptbytes_x (o : AOps) (p : X4) : callX Try.prog (lookT (T7 o)) 2000 Try.f19 [ptP p] =
   cond (o.odd (o.flat p).1) (some (.pv (.agg ((List.range 31).map (fun i => Cell.dg1 .u8 8 (o.num (o.flat p).2) i) ++ [.val (.int .u8 (or8 (dg 8 (o.num (o.flat p).2) 31) 128))])), [])) (some (.pv (keyP (o.num (o.flat p).2)), [])) := by kernel_rfl
def low7 (n : Nat) : List Int := (List.range 31).map (dg 8 n) ++ [and8 (dg 8 n 31) 127]
def nilP : PV := .agg (intsC .u64 (List.replicate 16 0))
theorem ptof_x (o : AOps) (n : Nat) : callX Try.prog (lookT (T7 o)) 2000 Try.f23 [keyP n] =
   let B := ∀ a ∈ low7 n, 0 ≤ a ∧ a < 256
   let odd := shr8 (dg 8 n 31) 7 == 1
   let y := o.of (numI 8 (low7 n))
   let x := (o.evn y).1
   cond (!o.canon (numI 8 (low7 n))) (some (.tup [nilP, bo false], [B]))
    (cond (!(o.evn y).2) (some (.tup [nilP, bo false], [B, B]))
      (cond odd (cond (o.eq x (o.small 0)) (some (.tup [nilP, bo false], [Fw.W 0, B, B])) (some (.tup [ptP (o.ptt (o.sel x (o.neg x) odd) y), bo true], [Fw.W 0, B, B])))
       (some (.tup [ptP (o.ptt (o.sel x (o.neg x) odd) y), bo true], [B, B])))) := by kernel_rfl

end Go.Proofs.Ytahkpabndfaoiaa
