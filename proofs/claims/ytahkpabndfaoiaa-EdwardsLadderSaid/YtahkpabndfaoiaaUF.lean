/-
Points as values: four numbers in a row.
What is known of the functions of points: numbers, the choice of nought, sums, what is opposite.
What is known of the functions of points: the choice of nought, sums, what is opposite.
What is known of the functions of points: sums, what is opposite, what is the same, x and y.
What is known of the functions of points: bytes, reading, the base, multiples.
What is known of the functions of points: multiples, the base's.
-/
import Derived.Test.YtahkpabndfaoiaaUE
import Derived.Test.YtahkpabndfaoiaaUA

/- Points as values: four numbers in a row. -/
namespace Eng
open Go Go.RowKit Ec

def takeE : List Cell → Option (Fin Ec.P × List Prop × List Cell)
  | .fe x :: l => some (x, [], l)
  | a :: b :: c :: d :: l => match decInts .u64 [a, b, c, d] with
    | some [p, q, r, s] => some (toF (Fw.val4 p q r s).toNat, [W4 p q r s ∧ Fw.val4 p q r s < Ec.P], l)
    | _ => none
  | _ => none

theorem denCs_app {ρ : Env} : ∀ {cs ds : List Cell} {v : List Value}, denCs ρ (cs ++ ds) = some v → ∃ a b, denCs ρ cs = some a ∧ denCs ρ ds = some b ∧ v = a ++ b
  | [], ds, v, h => ⟨[], v, rfl, h, rfl⟩
  | c :: cs, ds, v, h => by
    simp only [List.cons_append, denCs] at h
    cases h1 : denC ρ c with
    | none => simp [h1] at h
    | some x =>
      cases h2 : denCs ρ (cs ++ ds) with
      | none => simp [h1, h2] at h
      | some y =>
        simp only [h1, h2] at h
        cases h
        obtain ⟨a, b, e1, e2, rfl⟩ := denCs_app h2
        exact ⟨x ++ a, b, by simp [denCs, h1, e1], e2, by simp⟩

theorem takeE_spec {ρ : Env} {cs l : List Cell} {x : Fin Ec.P} {pre : List Prop} {v : List Value} (h : takeE cs = some (x, pre, l)) (hp : AllP pre) (e : denCs ρ cs = some v) :
    ∃ w, denCs ρ l = some w ∧ v = (digI 64 x.val 4).map (Value.int .u64) ++ w := by
  unfold takeE at h
  split at h
  · cases h
    obtain ⟨a, b, e1, e2, rfl⟩ := denCs_app (cs := [.fe x]) e
    refine ⟨b, e2, ?_⟩
    simp only [denCs, denC, digL_I] at e1
    cases e1
    simp
  · rename_i a b c d l' _
    split at h
    · rename_i p q r s hd
      cases h
      obtain ⟨u, w, e1, e2, rfl⟩ := denCs_app (cs := [a, b, c, d]) e
      refine ⟨w, e2, ?_⟩
      rw [decInts_spec hd] at e1
      cases e1
      rw [feL_of hp.1.1 hp.1.2]
    · cases h
  · cases h

/-- points -/
def ptP (p : X4) : PV := .agg [.fe p.x, .fe p.y, .fe p.z, .fe p.t]
def ptV (p : X4) : Value := intsV .u64 (digI 64 p.x.val 4 ++ digI 64 p.y.val 4 ++ digI 64 p.z.val 4 ++ digI 64 p.t.val 4)
theorem ptP_val (p : X4) : (ptP p).val? = some (ptV p) := rfl

def decP (p : PV) : Option (X4 × List Prop) := match p with
  | .one _ => none
  | .agg cs => match takeE cs with
    | some (x, p1, cs) => match takeE cs with
      | some (y, p2, cs) => match takeE cs with
        | some (z, p3, cs) => match takeE cs with
          | some (t, p4, []) => some (⟨x, y, z, t⟩, p1 ++ (p2 ++ (p3 ++ p4)))
          | _ => none
        | none => none
      | none => none
    | none => none

def dP : Dec X4 where
  dec := decP
  can := ptP
  law := by
    intro p x pre ρ v h hp e
    unfold decP at h
    split at h
    · cases h
    · rename_i cs
      split at h
      · rename_i x1 p1 c1 h1
        split at h
        · rename_i x2 p2 c2 h2
          split at h
          · rename_i x3 p3 c3 h3
            split at h
            · rename_i x4 p4 h4
              cases h
              obtain ⟨q1, hp⟩ := AllP_append hp
              obtain ⟨q2, hp⟩ := AllP_append hp
              obtain ⟨q3, q4⟩ := AllP_append hp
              simp only [denP] at e
              cases hd : denCs ρ cs with
              | none => simp [hd] at e
              | some vs =>
                simp only [hd] at e
                cases e
                obtain ⟨w1, e1, rfl⟩ := takeE_spec h1 q1 hd
                obtain ⟨w2, e2, rfl⟩ := takeE_spec h2 q2 e1
                obtain ⟨w3, e3, rfl⟩ := takeE_spec h3 q3 e2
                obtain ⟨w4, e4, rfl⟩ := takeE_spec h4 q4 e3
                simp only [denCs] at e4
                cases e4
                rw [ptP_val]
                unfold ptV intsV
                simp
            · cases h
          · cases h
        · cases h
      · cases h

end Eng

/- What is known of the functions of points: numbers, the choice of nought, sums, what is opposite. -/
namespace Go.Proofs.Ytahkpabndfaoiaa
open Eng Go Go.RowKit Go.Proofs Ec

def FOps.pt (o : FOps) (x y : Fin Ec.P) : X4 := ⟨x, y, o.small 1, o.mul x y⟩
theorem point_x (o : KOps) (x y : Fin Ec.P) : callX Try.prog (lookT (T4 o)) 300 Try.f57 [feP x, feP y] = some (.pv (ptP (o.pt x y)), [Fw.W 1]) := by kernel_rfl
def specPoint : FnSpec := spec2 dE dE fun x y => (.pv (ptP (fops.pt x y)), [])
theorem w0 : Fw.W 0 := Fw.W_lit (by decide) (by decide)
theorem w1 : Fw.W 1 := Fw.W_lit (by decide) (by decide)
theorem point_ok : SpecOK Try.prog 57 specPoint :=
  spec2_ok Try.func57 (by decide +kernel) (by kernel_rfl) T4_ok mixed (by kernel_rfl) fun x y _ => ⟨_, _, _, point_x kops x y, ⟨w1, trivial⟩, ptP_val _, ptP_val _⟩

/-- the curve's number, as bytes -/
def dNat : Nat := 37095705934669439343138083508754565189542113879843219016388785533085940283555
theorem const_x (o : KOps) : callX Try.prog (lookT (T4 o)) 300 Try.f54 [] = some (.pv (feP (o.of dNat)), [∀ a ∈ digI 8 dNat 32, 0 ≤ a ∧ a < 256]) := by kernel_rfl

theorem d_bytes : ∀ a ∈ digI 8 dNat 32, 0 ≤ a ∧ a < 256 := fun a ha => by
  obtain ⟨i, _, rfl⟩ := List.mem_map.1 ha
  exact dg_nn 8 _ _
theorem d_of : fops.of dNat = Ec.D := by decide +kernel
def spec0' (res : SV) : FnSpec := fun ps => match ps with
    | [] => some (res, [])
    | _ => none
theorem const_ok : SpecOK Try.prog 54 (spec0 (.pv (feP Ec.D))) :=
  spec0_ok (n := 300) Try.func54 (by decide +kernel) (by kernel_rfl) T4_ok mixed ⟨_, _, _, const_x kops, ⟨d_bytes, trivial⟩, feP_val _, by
    have : kops.of dNat = Ec.D := d_of
    rw [this]
    exact feP_val _⟩

/-- the same, and points, even roots, with nothing known of them -/
structure EOps extends KOps where
  d : Fin Ec.P
  ptt : Fin Ec.P → Fin Ec.P → X4
def eops : EOps where
  toKOps := kops
  d := Ec.D
  ptt := fops.pt
def T5 (o : EOps) : List (FuncId × FnSpec) :=
  (57, spec2 dE dE fun x y => (.pv (ptP (o.ptt x y)), [])) ::
  (54, spec0 (.pv (feP o.d))) :: T4 o.toKOps
theorem T5_ok : TableOK Try.prog (lookT (T5 eops)) := tableOK_cons point_ok (tableOK_cons const_ok T4_ok)

def nil1 (x : Fin Ec.P) : Bool := eqL (digI 64 x.val 4) [0, 0, 0, 0] && true
def isNil (p : X4) : Bool := nil1 p.x && (nil1 p.y && (nil1 p.z && (nil1 p.t && true)))
theorem whole_x (o : EOps) (p : X4) : callX Try.prog (lookT (T5 o)) 300 Try.f44 [ptP p] =
    cond (isNil p) (some (.pv (ptP (o.ptt (o.small 0) (o.small 1))), [Fw.W 0, Fw.W 1])) (some (.pv (ptP p), [])) := by kernel_rfl

end Go.Proofs.Ytahkpabndfaoiaa

/- What is known of the functions of points: the choice of nought, sums, what is opposite. -/
namespace Go.Proofs.Ytahkpabndfaoiaa
open Eng Go Go.RowKit Go.Proofs Ec

theorem nil1_eq (x : Fin Ec.P) : nil1 x = decide (x = toF 0) := by
  unfold nil1
  rw [← zero_dig, eqL_fe]
theorem isNil_eq (p : X4) : isNil p = decide (p = ⟨toF 0, toF 0, toF 0, toF 0⟩) := by
  obtain ⟨x, y, z, t⟩ := p
  unfold isNil
  simp only [nil1_eq]
  generalize toF 0 = c
  rw [Bool.eq_iff_iff]
  simp
theorem nil_toF : X4.nil = ⟨toF 0, toF 0, toF 0, toF 0⟩ := by decide +kernel
theorem ptt_01 : eops.ptt (eops.small 0) (eops.small 1) = X4.nought := by decide +kernel

def specWhole : FnSpec := spec1 dP fun p => (.pv (ptP (X4.whole p)), [])
theorem whole_ok : SpecOK Try.prog 44 specWhole :=
  spec1_ok Try.func44 (by decide +kernel) (by kernel_rfl) T5_ok mixed (by kernel_rfl) fun p _ => by
    have h := whole_x eops p
    rw [ptt_01, isNil_eq, ← nil_toF] at h
    unfold X4.whole
    by_cases hp : p = X4.nil
    · rw [if_pos hp]
      rw [show decide (p = X4.nil) = true from decide_eq_true hp] at h
      exact ⟨_, _, _, h, ⟨w0, w1, trivial⟩, ptP_val _, ptP_val _⟩
    · rw [if_neg hp]
      rw [show decide (p = X4.nil) = false from decide_eq_false hp] at h
      exact ⟨_, _, _, h, trivial, ptP_val _, ptP_val _⟩

structure WOps extends EOps where
  whole : X4 → X4
def wops : WOps where
  toEOps := eops
  whole := X4.whole
def T6 (o : WOps) : List (FuncId × FnSpec) :=
  (44, spec1 dP fun p => (.pv (ptP (o.whole p)), [])) :: T5 o.toEOps
theorem T6_ok : TableOK Try.prog (lookT (T6 wops)) := tableOK_cons whole_ok T5_ok

def WOps.sub (o : WOps) (x y : Fin Ec.P) : Fin Ec.P := o.add x (o.neg y)
def WOps.add0 (o : WOps) (p q : X4) : X4 :=
  let a := o.mul (o.sub p.y p.x) (o.sub q.y q.x)
  let b := o.mul (o.add p.y p.x) (o.add q.y q.x)
  let c := o.mul (o.mul p.t q.t) o.d
  let c := o.add c c
  let d := o.mul p.z q.z
  let d := o.add d d
  let e := o.sub b a
  let f := o.sub d c
  let g := o.add d c
  let h := o.add b a
  ⟨o.mul e f, o.mul g h, o.mul f g, o.mul e h⟩
theorem add_x (o : WOps) (p q : X4) : callX Try.prog (lookT (T6 o)) 2000 Try.f22 [ptP p, ptP q] = some (.pv (ptP (o.add0 (o.whole p) (o.whole q))), []) := by kernel_rfl
theorem neg_x (o : WOps) (p : X4) : callX Try.prog (lookT (T6 o)) 2000 Try.f29 [ptP p] = some (.pv (ptP ⟨o.neg (o.whole p).x, (o.whole p).y, (o.whole p).z, o.neg (o.whole p).t⟩), []) := by kernel_rfl
theorem same_x (o : WOps) (p q : X4) : callX Try.prog (lookT (T6 o)) 2000 Try.f14 [ptP p, ptP q] =
   cond (o.eq (o.mul (o.whole p).x (o.whole q).z) (o.mul (o.whole q).x (o.whole p).z)) (some (.pv (bo (o.eq (o.mul (o.whole p).y (o.whole q).z) (o.mul (o.whole q).y (o.whole p).z))), [])) (some (.pv (bo false), [])) := by kernel_rfl
theorem even_x (o : WOps) (y : Fin Ec.P) : callX Try.prog (lookT (T6 o)) 2000 Try.f56 [feP y] =
   some (.tup [feP (o.root (o.sub (o.mul y y) (o.small 1)) (o.add (o.mul o.d (o.mul y y)) (o.small 1))).1, bo (o.root (o.sub (o.mul y y) (o.small 1)) (o.add (o.mul o.d (o.mul y y)) (o.small 1))).2], [Fw.W 1, Fw.W 1]) := by kernel_rfl
theorem flat_x (o : WOps) (p : X4) : callX Try.prog (lookT (T6 o)) 2000 Try.f51 [ptP p] =
   some (.tup [feP (o.mul (o.whole p).x (o.inv (o.whole p).z)), feP (o.mul (o.whole p).y (o.inv (o.whole p).z))], []) := by kernel_rfl

end Go.Proofs.Ytahkpabndfaoiaa

/- What is known of the functions of points: sums, what is opposite, what is the same, x and y. -/
namespace Go.Proofs.Ytahkpabndfaoiaa
open Eng Go Go.RowKit Go.Proofs Ec

theorem sub_eq' {n : Nat} [NeZero n] (x y : Fin n) : x + -y = x - y := by grind
theorem wsub (x y : Fin Ec.P) : wops.sub x y = x - y := sub_eq' x y
theorem wadd (x y : Fin Ec.P) : wops.add x y = x + y := rfl
theorem wmul (x y : Fin Ec.P) : wops.mul x y = x * y := rfl
theorem wneg (x : Fin Ec.P) : wops.neg x = -x := rfl
theorem winv (x : Fin Ec.P) : wops.inv x = Ec.inv x := rfl
theorem weq (x y : Fin Ec.P) : wops.eq x y = decide (x = y) := rfl
theorem wwhole (p : X4) : wops.whole p = X4.whole p := rfl
theorem wcd : wops.d = Ec.D := rfl
theorem wone : wops.small 1 = 1 := one_toF
theorem wroot (x y : Fin Ec.P) : wops.root x y = fops.root x y := by dsimp only [wops, eops, kops]

theorem wadd0 (p q : X4) : wops.add0 p q = X4.add0 p q := by
  unfold WOps.add0 X4.add0
  simp only [wsub, wadd, wmul, wcd]

def specAddP : FnSpec := spec2 dP dP fun p q => (.pv (ptP (X4.add p q)), [])
theorem addP_ok : SpecOK Try.prog 22 specAddP :=
  spec2_ok Try.func22 (by decide +kernel) (by kernel_rfl) T6_ok mixed (by kernel_rfl) fun p q _ => by
    have h := add_x wops p q
    rw [wadd0] at h
    exact ⟨_, _, _, h, trivial, ptP_val _, ptP_val _⟩

def specNegP : FnSpec := spec1 dP fun p => (.pv (ptP (X4.neg p)), [])
theorem negP_ok : SpecOK Try.prog 29 specNegP :=
  spec1_ok Try.func29 (by decide +kernel) (by kernel_rfl) T6_ok mixed (by kernel_rfl) fun p _ =>
    ⟨_, _, _, neg_x wops p, trivial, ptP_val _, ptP_val _⟩

def specSameP : FnSpec := spec2 dP dP fun p q => (.pv (bo (X4.same p q)), [])
theorem sameP_ok : SpecOK Try.prog 14 specSameP :=
  spec2_ok Try.func14 (by decide +kernel) (by kernel_rfl) T6_ok mixed (by kernel_rfl) fun p q _ => by
    have h := same_x wops p q
    simp only [weq, wmul, wwhole] at h
    unfold X4.same
    generalize decide (p.whole.x * q.whole.z = q.whole.x * p.whole.z) = c1 at *
    generalize decide (p.whole.y * q.whole.z = q.whole.y * p.whole.z) = c2 at *
    cases c1 with
    | true => exact ⟨_, _, _, h, trivial, rfl, rfl⟩
    | false => exact ⟨_, _, _, h, trivial, rfl, rfl⟩

/-- the even x of a y, and is there one? -/
def evenOf (y : Fin Ec.P) : Fin Ec.P × Bool := fops.root (y * y - 1) (Ec.D * (y * y) + 1)
def specEven : FnSpec := spec1 dE fun y => (.tup [feP (evenOf y).1, bo (evenOf y).2], [])
theorem even_ok : SpecOK Try.prog 56 specEven :=
  spec1_ok Try.func56 (by decide +kernel) (by kernel_rfl) T6_ok mixed (by kernel_rfl) fun y _ => by
    have h := even_x wops y
    simp only [wsub, wmul, wadd, wcd, wone, wroot] at h
    have e : fops.root (y * y - 1) (Ec.D * (y * y) + 1) = evenOf y := by unfold evenOf; rfl
    rw [e] at h
    exact ⟨_, _, _, h, ⟨w1, w1, trivial⟩, rfl, rfl⟩

def flatOf (p : X4) : Fin Ec.P × Fin Ec.P := (p.whole.x * Ec.inv p.whole.z, p.whole.y * Ec.inv p.whole.z)
def specFlat : FnSpec := spec1 dP fun p => (.tup [feP (flatOf p).1, feP (flatOf p).2], [])
theorem flat_ok : SpecOK Try.prog 51 specFlat :=
  spec1_ok Try.func51 (by decide +kernel) (by kernel_rfl) T6_ok mixed (by kernel_rfl) fun p _ =>
    ⟨_, _, _, flat_x wops p, trivial, rfl, rfl⟩

/-- the same, and sums, with nothing known of them -/
structure AOps extends WOps where
  padd : X4 → X4 → X4
  pneg : X4 → X4
  same : X4 → X4 → Bool
  evn : Fin Ec.P → Fin Ec.P × Bool
  flat : X4 → Fin Ec.P × Fin Ec.P
def aops : AOps where
  toWOps := wops
  padd := X4.add
  pneg := X4.neg
  same := X4.same
  evn := evenOf
  flat := flatOf
def T7 (o : AOps) : List (FuncId × FnSpec) :=
  (22, spec2 dP dP fun p q => (.pv (ptP (o.padd p q)), [])) ::
  (29, spec1 dP fun p => (.pv (ptP (o.pneg p)), [])) ::
  (14, spec2 dP dP fun p q => (.pv (bo (o.same p q)), [])) ::
  (56, spec1 dE fun y => (.tup [feP (o.evn y).1, bo (o.evn y).2], [])) ::
  (51, spec1 dP fun p => (.tup [feP (o.flat p).1, feP (o.flat p).2], [])) :: T6 o.toWOps
theorem T7_ok : TableOK Try.prog (lookT (T7 aops)) :=
  tableOK_cons addP_ok (tableOK_cons negP_ok (tableOK_cons sameP_ok (tableOK_cons even_ok (tableOK_cons flat_ok T6_ok))))

def and8 (x m : Int) : Int := IntKind.wrap .u8 (BitVec.ofInt 8 x &&& BitVec.ofInt 8 m).toNat
def or8 (x m : Int) : Int := IntKind.wrap .u8 (BitVec.ofInt 8 x ||| BitVec.ofInt 8 m).toNat
def shr8 (x n : Int) : Int := x.fdiv (2 ^ (min n.toNat 8))

theorem x_x (o : AOps) (p : X4) : callX Try.prog (lookT (T7 o)) 2000 Try.f26 [ptP p] = some (.pv (keyP (o.num (o.flat p).1)), []) := by kernel_rfl
theorem y_x (o : AOps) (p : X4) : callX Try.prog (lookT (T7 o)) 2000 Try.f27 [ptP p] = some (.pv (keyP (o.num (o.flat p).2)), []) := by kernel_rfl
theorem base_x (o : AOps) : callX Try.prog (lookT (T7 o)) 2000 Try.f43 [] = some (.pv (ptP (o.ptt (o.evn (o.mul (o.small 4) (o.inv (o.small 5)))).1 (o.mul (o.small 4) (o.inv (o.small 5))))), [Fw.W 4, Fw.W 5]) := by kernel_rfl
theorem ptbytes_x (o : AOps) (p : X4) : callX Try.prog (lookT (T7 o)) 2000 Try.f19 [ptP p] =
   cond (o.odd (o.flat p).1) (some (.pv (.agg ((List.range 31).map (fun i => Cell.dg1 .u8 8 (o.num (o.flat p).2) i) ++ [.val (.int .u8 (or8 (dg 8 (o.num (o.flat p).2) 31) 128))])), [])) (some (.pv (keyP (o.num (o.flat p).2)), [])) := by kernel_rfl
def low7 (n : Nat) : List Int := (List.range 31).map (dg 8 n) ++ [and8 (dg 8 n 31) 127]
def nilP : PV := .agg (intsC .u64 (List.replicate 16 0))
theorem ptof_x (o : AOps) (n : Nat) : callX Try.prog (lookT (T7 o)) 2000 Try.f23 [keyP n] =
   let B := ∀ a ∈ low7 n, 0 ≤ a ∧ a < 256
   let odd := shr8 (dg 8 n 31) 7 == 1
   let y := o.of (numI 8 (low7 n))
   let x := (o.evn y).1
   cond (!o.canon (numI 8 (low7 n))) (some (.tup [nilP, bo false], [B]))
    (cond (!(o.evn y).2) (some (.tup [nilP, bo false], [B, B]))
      (cond odd (cond (o.eq x (o.small 0)) (some (.tup [nilP, bo false], [Fw.W 0, B, B])) (some (.tup [ptP (o.ptt (o.sel x (o.neg x) odd) y), bo true], [Fw.W 0, B, B])))
       (some (.tup [ptP (o.ptt (o.sel x (o.neg x) odd) y), bo true], [B, B])))) := by kernel_rfl

end Go.Proofs.Ytahkpabndfaoiaa

/- What is known of the functions of points: bytes, reading, the base, multiples. -/
namespace Eng
open Go

theorem and8_spec (m : Nat) (h : m < 256) : IntKind.wrap .u8 (BitVec.ofInt 8 (m : Int) &&& BitVec.ofInt 8 127).toNat = ((m % 128 : Nat) : Int) := by
  have : (BitVec.ofInt 8 (m : Int) &&& BitVec.ofInt 8 127).toNat = m % 128 := by
    rw [BitVec.toNat_and]
    have h1 : (BitVec.ofInt 8 (m : Int)).toNat = m := by rw [BitVec.ofInt_natCast, BitVec.toNat_ofNat, Nat.mod_eq_of_lt h]
    rw [h1]
    exact Nat.and_two_pow_sub_one_eq_mod m 7
  rw [this]
  have hm : m % 128 < 256 := Nat.lt_of_lt_of_le (Nat.mod_lt _ (by decide)) (by decide)
  show ((m % 128 : Nat) : Int).emod 256 = _
  exact Int.emod_eq_of_lt (Int.natCast_nonneg _) (by omega)
theorem or8_spec (m : Nat) (h : m < 128) : IntKind.wrap .u8 (BitVec.ofInt 8 (m : Int) ||| BitVec.ofInt 8 128).toNat = ((m + 128 : Nat) : Int) := by
  have : (BitVec.ofInt 8 (m : Int) ||| BitVec.ofInt 8 128).toNat = m + 128 := by
    rw [BitVec.toNat_or]
    have h1 : (BitVec.ofInt 8 (m : Int)).toNat = m := by rw [BitVec.ofInt_natCast, BitVec.toNat_ofNat, Nat.mod_eq_of_lt (by omega)]
    rw [h1, Nat.or_comm]
    have := Nat.two_pow_add_eq_or_of_lt (i := 7) (b := m) (by omega) 1
    have e : 2 ^ 7 * 1 = 128 := rfl
    rw [e] at this
    show 128 ||| m = _
    omega
  rw [this]
  show ((m + 128 : Nat) : Int).emod 256 = _
  exact Int.emod_eq_of_lt (Int.natCast_nonneg _) (by omega)

theorem numI_app (w : Nat) (l m : List Int) : numI w (l ++ m) = numI w l + 2 ^ (w * l.length) * numI w m := by
  induction l with
  | nil => simp [numI]
  | cons a l ih =>
    simp only [List.cons_append, numI, ih, List.length_cons]
    rw [show w * (l.length + 1) = w + w * l.length by rw [Nat.mul_add, Nat.mul_one, Nat.add_comm], Nat.pow_add, Nat.mul_add, Nat.mul_assoc, Nat.add_assoc]

theorem often_snoc {α : Type} (add : α → α → α) (p : α) (b : Bool) : ∀ (l : List Bool) (r : α), Ec.often add p (l ++ [b]) r = cond b (add (add (Ec.often add p l r) (Ec.often add p l r)) p) (add (Ec.often add p l r) (Ec.often add p l r))
  | [], r => by cases b <;> rfl
  | false :: l, r => often_snoc add p b l _
  | true :: l, r => often_snoc add p b l _
theorem numOf_snoc (b : Bool) : ∀ (l : List Bool) (m : Nat), Ec.numOf (l ++ [b]) m = 2 * Ec.numOf l m + b.toNat
  | [], m => by cases b <;> rfl
  | false :: l, m => numOf_snoc b l _
  | true :: l, m => numOf_snoc b l _

/-- a number's bits, the highest of 256 first -/
def bits256 (e i : Nat) : List Bool := (List.range i).map (bitAt e)
theorem bits_succ (e i : Nat) : bits256 e (i + 1) = bits256 e i ++ [bitAt e i] := by simp [bits256, List.range_succ]
theorem numOf_top (e : Nat) : ∀ i, i ≤ 256 → Ec.numOf (bits256 e i) 0 = top e i
  | 0, _ => by rw [top_zero]; rfl
  | i + 1, h => by rw [bits_succ, numOf_snoc, numOf_top e i (by omega), top_succ e i (by omega)]

end Eng
namespace Go.Proofs.Ytahkpabndfaoiaa
open Eng Go Go.RowKit Go.Proofs Ec

theorem exp_33 : expN 3 3 % 2 ^ 256 = M8 + 1 := by decide +kernel
theorem exp_12 : expN (-1) 2 % 2 ^ 256 = 2 * M8 + 1 := by decide +kernel
theorem two_toF : toF ((2 : Int).toNat) = 2 := rfl
theorem fQ (u v : Fin Ec.P) : fops.rootQ u v = rootR M8 u v := congrArg (fun k => (u * inv v) ^ k) exp_33
theorem fS : fops.pow (fops.small 2) (expN (-1) 2) = rootS M8 := by
  have : fops.small 2 = 2 := two_toF
  rw [this]
  exact congrArg (fun k => (2 : Fin Ec.P) ^ k) exp_12
theorem fX (u v : Fin Ec.P) : fops.rootX u v = rootR M8 u v * rootS M8 := by
  unfold FOps.rootX
  rw [fQ, fS]
  exact wmul _ _
theorem fI (u v x : Fin Ec.P) : fops.isR u v x = Ec.isR u v x := rfl
theorem fE (x : Fin Ec.P) : fops.even x = evenI x := rfl
theorem zero_toF : toF 0 = 0 := rfl
theorem fops_root (u v : Fin Ec.P) : fops.root u v = rootP u v := by
  unfold FOps.root rootP root
  simp only [fI, fE, fQ, fX, zero_toF]

theorem five_ne : (5 : Fin Ec.P) ≠ 0 := by decide +kernel
theorem four_toF : toF ((4 : Int).toNat) = 4 := rfl
theorem five_toF : toF ((5 : Int).toNat) = 5 := rfl
theorem nought_toF : toF ((0 : Int).toNat) = 0 := rfl
theorem asmall (n : Int) : aops.small n = toF n.toNat := rfl
theorem amul (x y : Fin Ec.P) : aops.mul x y = x * y := rfl
theorem ainv (x : Fin Ec.P) : aops.inv x = Ec.inv x := rfl
theorem aflat (p : X4) : aops.flat p = flatOf p := rfl
theorem anum (x : Fin Ec.P) : aops.num x = x.val := rfl
theorem aodd (x : Fin Ec.P) : aops.odd x = (x.val % 2 == 1) := rfl
theorem aevn (y : Fin Ec.P) : aops.evn y = evenOf y := by dsimp only [aops]
theorem aneg (x : Fin Ec.P) : aops.neg x = -x := rfl
theorem aeq (x y : Fin Ec.P) : aops.eq x y = decide (x = y) := rfl
theorem asel (x y : Fin Ec.P) (s : Bool) : aops.sel x y s = cond s y x := rfl
theorem aptt (x y : Fin Ec.P) : aops.ptt x y = fops.pt x y := rfl
theorem fpt (x y : Fin Ec.P) : fops.pt x y = ⟨x, y, 1, x * y⟩ := by
  unfold FOps.pt
  have h1 : fops.small 1 = 1 := one_toF
  have h2 : fops.mul x y = x * y := wmul _ _
  rw [h1, h2]
theorem base_y : aops.mul (aops.small 4) (aops.inv (aops.small 5)) = BY := by
  rw [asmall, asmall, four_toF, five_toF, amul, ainv, ← BY_is]
  have := fldP.mul_inv five_ne
  grind
theorem bv_ne : D * (BY * BY) + 1 ≠ 0 := by decide +kernel
theorem b_sq : (D * (BY * BY) + 1) * (BX * BX) = BY * BY - 1 := by decide +kernel
theorem b_even : evenI BX = BX := by decide +kernel
theorem base_even : evenOf BY = (BX, true) := by
  unfold evenOf
  rw [fops_root, rootP_of bv_ne b_sq, b_even]

theorem w4 : Fw.W 4 := Fw.W_lit (by decide) (by decide)
theorem w5 : Fw.W 5 := Fw.W_lit (by decide) (by decide)
theorem pt_base : fops.pt BX BY = base4 := by
  rw [fpt]
  unfold base4
  rfl
theorem base_ok : SpecOK Try.prog 43 (spec0 (.pv (ptP base4))) :=
  spec0_ok (n := 2000) Try.func43 (by decide +kernel) (by kernel_rfl) T7_ok mixed ⟨_, _, _, base_x aops, ⟨w4, w5, trivial⟩, ptP_val _, by
    rw [base_y, aevn, base_even, aptt, pt_base]
    exact ptP_val _⟩

/-- the bytes of an x and a y, as a number -/
def xyNat (x y : Fin Ec.P) : Nat := y.val + cond (x.val % 2 == 1) (2 ^ 255) 0
theorem P_lt255 : Ec.P < 2 ^ 255 := by decide +kernel
theorem top_bytes (y : Nat) (h : y < 2 ^ 255) : (List.range 31).map (dg 8 y) ++ [or8 (dg 8 y 31) 128] = digI 8 (y + 2 ^ 255) 32 := by
  unfold digI
  rw [show List.range 32 = List.range 31 ++ [31] from rfl, List.map_append]
  congr 1
  · refine List.map_congr_left fun i hi => ?_
    have hi := List.mem_range.1 hi
    unfold dg
    have h2 : 2 ^ 255 = 2 ^ (8 * i) * (2 ^ 8 * 2 ^ (247 - 8 * i)) := by rw [← Nat.pow_add, ← Nat.pow_add]; congr 1; omega
    have : (y + 2 ^ 255) / 2 ^ (8 * i) % 2 ^ 8 = y / 2 ^ (8 * i) % 2 ^ 8 := by
      rw [h2, Nat.add_mul_div_left _ _ (Nat.two_pow_pos _), Nat.add_mul_mod_self_left]
    rw [this]
  · have h0 : y / 2 ^ 248 < 128 := Nat.div_lt_of_lt_mul (by rw [show 2 ^ 248 * 128 = 2 ^ 255 by decide]; exact h)
    have h1 : dg 8 y 31 = ((y / 2 ^ 248 : Nat) : Int) := by
      unfold dg
      show ((y / 2 ^ 248 % 256 : Nat) : Int) = _
      rw [Nat.mod_eq_of_lt (by omega)]
    have h2 : dg 8 (y + 2 ^ 255) 31 = ((y / 2 ^ 248 + 128 : Nat) : Int) := by
      unfold dg
      show (((y + 2 ^ 255) / 2 ^ 248 % 256 : Nat) : Int) = _
      rw [show (2 : Nat) ^ 255 = 2 ^ 248 * 128 by decide, Nat.add_mul_div_left _ _ (Nat.two_pow_pos _), Nat.mod_eq_of_lt (by omega)]
    have h3 : or8 (dg 8 y 31) 128 = ((y / 2 ^ 248 + 128 : Nat) : Int) := by rw [h1]; exact or8_spec _ h0
    rw [h3, List.map_cons, List.map_nil, h2]
theorem ptb_val (y : Nat) : (PV.agg ((List.range 31).map (fun i => Cell.dg1 .u8 8 y i) ++ [.val (.int .u8 (or8 (dg 8 y 31) 128))])).val? = some (intsV .u8 ((List.range 31).map (dg 8 y) ++ [or8 (dg 8 y 31) 128])) := by kernel_rfl
theorem ptb_val1 (y : Nat) (h : y < 2 ^ 255) : (SV.pv (.agg ((List.range 31).map (fun i => Cell.dg1 .u8 8 y i) ++ [.val (.int .u8 (or8 (dg 8 y 31) 128))]))).val? = some (keyV (y + 2 ^ 255)) := by
  have := ptb_val y
  rw [top_bytes _ h] at this
  unfold keyV
  exact this
theorem xy_odd (x y : Fin Ec.P) (h : (x.val % 2 == 1) = true) : xyNat x y = y.val + 2 ^ 255 := by unfold xyNat; rw [h, cond_true]
theorem xy_even (x y : Fin Ec.P) (h : (x.val % 2 == 1) = false) : xyNat x y = y.val := by unfold xyNat; rw [h, cond_false, Nat.add_zero]
theorem keyS_val (n : Nat) : (SV.pv (keyP n)).val? = some (keyV n) := rfl
theorem ptbytes_m (p : X4) : Meets (callX Try.prog (lookT (T7 aops)) 2000 Try.f19 [ptP p]) (.pv (keyP (xyNat (flatOf p).1 (flatOf p).2))) := by
  have h := ptbytes_x aops p
  rw [aflat, anum, aodd] at h
  cases hc : ((flatOf p).1.val % 2 == 1) with
  | true =>
      rw [hc, cond_true] at h
      have hy : (flatOf p).2.val < 2 ^ 255 := Nat.lt_trans (flatOf p).2.isLt P_lt255
      rw [xy_odd _ _ hc]
      have hv := ptb_val1 _ hy
      have hk := keyS_val ((flatOf p).2.val + 2 ^ 255)
      exact ⟨_, _, _, h, trivial, hv, hk⟩
  | false =>
      rw [hc, cond_false] at h
      rw [xy_even _ _ hc]
      exact Meets.of h trivial (keyS_val _)
/-- the point that a number's bytes say -/
def xOf (n : Nat) : Fin Ec.P := cond (n / 2 ^ 255 % 2 == 1) (-(evenOf (toF (n % 2 ^ 255))).1) (evenOf (toF (n % 2 ^ 255))).1
def ptOf (n : Nat) : X4 := ⟨xOf n, toF (n % 2 ^ 255), 1, xOf n * toF (n % 2 ^ 255)⟩
def ofP (n : Nat) : Option X4 :=
  cond (!decide (n % 2 ^ 255 < Ec.P)) none (cond (!(evenOf (toF (n % 2 ^ 255))).2) none (cond (n / 2 ^ 255 % 2 == 1) (cond (decide ((evenOf (toF (n % 2 ^ 255))).1 = 0)) none (some (ptOf n))) (some (ptOf n))))
def optP (p : Option X4) : List PV := [ptP (p.getD X4.nil), bo p.isSome]
def specPO : FnSpec := spec1 dK fun n => (.tup (optP (ofP n)), [])

theorem low7_num (n : Nat) : numI 8 (low7 n) = n % 2 ^ 255 := by
  unfold low7
  rw [numI_app]
  have h1 : numI 8 ((List.range 31).map (dg 8 n)) = n % 2 ^ 248 := numI_digI 8 31 n
  have h2 : and8 (dg 8 n 31) 127 = ((n / 2 ^ 248 % 256 % 128 : Nat) : Int) := and8_spec _ (Nat.mod_lt _ (by decide))
  rw [h1, h2]
  simp only [numI, Int.toNat_natCast, List.length_map, List.length_range, Nat.mul_zero, Nat.add_zero]
  rw [Nat.mod_mod_of_dvd _ (by decide : 128 ∣ 256), show (2 : Nat) ^ 255 = 2 ^ 248 * 128 by decide, Nat.mod_mul]
theorem low7_ok (n : Nat) : ∀ a ∈ low7 n, 0 ≤ a ∧ a < 256 := by
  intro a ha
  unfold low7 at ha
  rcases List.mem_append.1 ha with h | h
  · obtain ⟨i, _, rfl⟩ := List.mem_map.1 h
    exact dg_nn 8 _ _
  · have h2 : and8 (dg 8 n 31) 127 = ((n / 2 ^ 248 % 256 % 128 : Nat) : Int) := and8_spec _ (Nat.mod_lt _ (by decide))
    have : a = ((n / 2 ^ 248 % 256 % 128 : Nat) : Int) := by rw [← h2]; simpa using h
    subst this
    have : n / 2 ^ 248 % 256 % 128 < 128 := Nat.mod_lt _ (by decide)
    omega
theorem high_bit (n : Nat) : (shr8 (dg 8 n 31) 7 == 1) = (n / 2 ^ 255 % 2 == 1) := by
  unfold shr8 dg
  have e1 : (((n / 2 ^ (8 * 31) % 2 ^ 8 : Nat) : Int)).fdiv (2 ^ (min (7 : Int).toNat 8)) = ((n / 2 ^ 248 % 256 / 128 : Nat) : Int) := by
    rw [Int.fdiv_eq_ediv_of_nonneg _ (by decide)]
    rfl
  rw [e1]
  have e2 : n / 2 ^ 255 = n / 2 ^ 248 / 128 := by rw [Nat.div_div_eq_div_mul]
  rw [e2, Bool.eq_iff_iff]
  simp only [beq_iff_eq]
  omega
theorem nil_val : pvVals [nilP, bo false] = pvVals (optP none) := by kernel_rfl
theorem opt_val (p : Option X4) : pvVals (optP p) = some [ptV (p.getD X4.nil), .bool p.isSome] := rfl

theorem mod255 (n : Nat) : n % 2 ^ 255 < 2 ^ 255 := Nat.mod_lt _ (Nat.two_pow_pos _)
theorem acanon (n : Nat) : aops.canon n = decide (n % 2 ^ 256 < Ec.P) := rfl
theorem aof (n : Nat) : aops.of n = toF (n % 57896044618658097711785492504343953926634992332820282019728792003956564819968) := rfl
theorem mod_256 {n : Nat} (h : n < 2 ^ 255) : n % 2 ^ 256 = n := Nat.mod_eq_of_lt (Nat.lt_trans h (by decide))
theorem mod_255 {n : Nat} (h : n < 2 ^ 255) : n % 57896044618658097711785492504343953926634992332820282019728792003956564819968 = n := Nat.mod_eq_of_lt h
theorem nilT_val : (SV.tup [nilP, bo false]).val? = (SV.tup (optP none)).val? := by simp only [SV.val?, nil_val]
theorem optT_val (p : Option X4) : (SV.tup (optP p)).val? = some (.tuple #[ptV (p.getD X4.nil), .bool p.isSome]) := rfl
theorem someT (p : X4) : (SV.tup [ptP p, bo true]) = SV.tup (optP (some p)) := rfl
theorem meets_opt {x : Option (SV × List Prop)} {ob : List Prop} {p : Option X4} (h : x = some (.tup (optP p), ob)) (ho : AllP ob) : Meets x (.tup (optP p)) := ⟨_, _, _, h, ho, optT_val p, optT_val p⟩
theorem ptof_gen {x : Option (SV × List Prop)} {B C : Prop} (c1 c2 c3 c4 : Bool) (p : X4) (hB : B) (hC : C) (h : x = cond (!c1) (some (.tup [nilP, bo false], [B])) (cond (!c2) (some (.tup [nilP, bo false], [B, B])) (cond c3 (cond c4 (some (.tup [nilP, bo false], [C, B, B])) (some (.tup [ptP p, bo true], [C, B, B]))) (some (.tup [ptP p, bo true], [B, B]))))) :
    Meets x (.tup (optP (cond (!c1) none (cond (!c2) none (cond c3 (cond c4 none (some p)) (some p)))))) := by
  cases c1 with
  | false => exact ⟨_, _, _, h, ⟨hB, trivial⟩, nilT_val.trans (optT_val none), optT_val none⟩
  | true =>
    cases c2 with
    | false => exact ⟨_, _, _, h, ⟨hB, hB, trivial⟩, nilT_val.trans (optT_val none), optT_val none⟩
    | true =>
      cases c3 with
      | true =>
        cases c4 with
        | true => exact ⟨_, _, _, h, ⟨hC, hB, hB, trivial⟩, nilT_val.trans (optT_val none), optT_val none⟩
        | false => exact meets_opt (p := some p) h ⟨hC, hB, hB, trivial⟩
      | false => exact meets_opt (p := some p) h ⟨hB, hB, trivial⟩
theorem ptof_m (n : Nat) : Meets (callX Try.prog (lookT (T7 aops)) 2000 Try.f23 [keyP n]) (.tup (optP (ofP n))) := by
  have h := ptof_x aops n
  simp only [low7_num, high_bit, acanon, aof, mod_256 (mod255 n), mod_255 (mod255 n), aevn, aneg, aeq, asmall, nought_toF, asel, aptt, fpt] at h
  exact ptof_gen _ _ _ _ _ (low7_ok n) w0 h
theorem ptof_ok : SpecOK Try.prog 23 specPO :=
  spec1_ok Try.func23 (by decide +kernel) (by kernel_rfl) T7_ok mixed (by kernel_rfl) fun n _ => ptof_m n

end Go.Proofs.Ytahkpabndfaoiaa

/- What is known of the functions of points: multiples, the base's. -/
namespace Go.Proofs.Ytahkpabndfaoiaa
open Eng Go Go.RowKit Go.Proofs Ec

def zeroX4 : X4 := ⟨toF (Fw.val4 0 0 0 0).toNat, toF (Fw.val4 0 0 0 0).toNat, toF (Fw.val4 0 0 0 0).toNat, toF (Fw.val4 0 0 0 0).toNat⟩
def zeroOb : Prop := W4 0 0 0 0 ∧ Fw.val4 0 0 0 0 < Ec.P
theorem zeroOb_ok : zeroOb := by
  unfold zeroOb W4 Fw.W
  rw [Fw.P_lit]
  unfold Fw.val4
  omega
theorem zeroX4_is : zeroX4 = X4.nil := by decide +kernel

def mulKeep : List Nat := [2, 3, 4, 5, 9]
noncomputable def mulS (o : AOps) (p : X4) (e i : Nat) (r : X4) : St :=
  setC (setS (first0 Try.prog (lookT (T7 o)) Try.f15 mulKeep 300 [ptP p, keyP e]) 9 (.pv (iv (i : Int)))) 5 [.fe r.x, .fe r.y, .fe r.z, .fe r.t]
theorem mul_first (o : AOps) (p : X4) (e : Nat) : first Try.prog (lookT (T7 o)) Try.f15 mulKeep 300 [ptP p, keyP e] = some (atHead Try.f15 (mulS o p e 0 (o.whole zeroX4)), [zeroOb, zeroOb, zeroOb, zeroOb]) := by kernel_rfl
theorem mul_rounds (o : AOps) (p r : X4) (e : Nat) : (List.range 256).map (fun i => round Try.prog (lookT (T7 o)) Try.f15 mulKeep 300 (mulS o p e i r)) =
    (List.range 256).map fun i => cond (bitAt e i) (some (again Try.f15 (mulS o p e (i + 1) (o.padd (o.padd r r) p)), [])) (some (again Try.f15 (mulS o p e (i + 1) (o.padd r r)), [])) := by kernel_rfl
theorem mul_last (o : AOps) (p r : X4) (e : Nat) : round Try.prog (lookT (T7 o)) Try.f15 mulKeep 300 (mulS o p e 256 r) = some (.out (.pv (ptP r)), []) := by kernel_rfl

def mulP (p : X4) (e : Nat) : X4 := X4.mulBits p (bits256 e 256) X4.nought
def specMulP : FnSpec := spec2 dP dK fun p e => (.pv (ptP (mulP p e)), [])
theorem apadd (p q : X4) : aops.padd p q = X4.add p q := rfl
theorem awhole (p : X4) : aops.whole p = X4.whole p := rfl
theorem whole_nil : X4.whole X4.nil = X4.nought := by unfold X4.whole; exact if_pos rfl
theorem mulP_ok : SpecOK Try.prog 15 specMulP :=
  spec2_calls Try.func15 (by decide +kernel) (by kernel_rfl) fun p e _ va vb ha hb => by
    refine ⟨_, ptP_val _, fun w => ?_⟩
    refine loopCalls (m := 300) (fn := Try.f15) (T7_ok) mixed Try.func15 (by kernel_rfl) 256 (mulS aops p e) (fun i r => r = X4.mulBits p (bits256 e i) X4.nought) (by simp only [pvVals]; rw [show (ptP p).val? = some va from ha, show (keyP e).val? = some vb from hb]) (by kernel_rfl) ⟨_, _, mul_first aops p e, ⟨zeroOb_ok, zeroOb_ok, zeroOb_ok, zeroOb_ok, trivial⟩, ?_⟩ ?_ ?_ w
    · rw [awhole, zeroX4_is, whole_nil]; rfl
    · intro i r hi hr
      have h := map_range_eq (mul_rounds aops p r e) hi
      rw [h]
      subst hr
      rw [bits_succ]
      unfold X4.mulBits
      rw [often_snoc]
      cases bitAt e i with
      | true => exact ⟨_, _, rfl, trivial, rfl⟩
      | false => exact ⟨_, _, rfl, trivial, rfl⟩
    · intro r hr
      subst hr
      exact ⟨_, _, mul_last aops p _ e, trivial, ptP_val _⟩

theorem xNum_ex : ∃ f : X4 → Nat, ∀ p, f p = (flatOf p).1.val := ⟨_, fun _ => rfl⟩
theorem yNum_ex : ∃ f : X4 → Nat, ∀ p, f p = (flatOf p).2.val := ⟨_, fun _ => rfl⟩
theorem bNum_ex : ∃ f : X4 → Nat, ∀ p, f p = xyNat (flatOf p).1 (flatOf p).2 := ⟨_, fun _ => rfl⟩
/-- hidden from reckoning -/
noncomputable def xNum : X4 → Nat := Classical.choose xNum_ex
noncomputable def yNum : X4 → Nat := Classical.choose yNum_ex
noncomputable def bNum : X4 → Nat := Classical.choose bNum_ex
theorem xNum_eq (p : X4) : xNum p = (flatOf p).1.val := Classical.choose_spec xNum_ex p
theorem yNum_eq (p : X4) : yNum p = (flatOf p).2.val := Classical.choose_spec yNum_ex p
theorem bNum_eq (p : X4) : bNum p = xyNat (flatOf p).1 (flatOf p).2 := Classical.choose_spec bNum_ex p
def specK1 (f : X4 → Nat) : FnSpec := spec1 dP fun p => (.pv (keyP (f p)), [])
theorem x_m (p : X4) : Meets (callX Try.prog (lookT (T7 aops)) 2000 Try.f26 [ptP p]) (.pv (keyP (xNum p))) := by
  have h := x_x aops p
  rw [aflat, anum, ← xNum_eq] at h
  exact ⟨_, _, _, h, trivial, keyP_val _, keyP_val _⟩
theorem y_m (p : X4) : Meets (callX Try.prog (lookT (T7 aops)) 2000 Try.f27 [ptP p]) (.pv (keyP (yNum p))) := by
  have h := y_x aops p
  rw [aflat, anum, ← yNum_eq] at h
  exact ⟨_, _, _, h, trivial, keyP_val _, keyP_val _⟩
theorem b_m (p : X4) : Meets (callX Try.prog (lookT (T7 aops)) 2000 Try.f19 [ptP p]) (.pv (keyP (bNum p))) := by
  have h := ptbytes_m p
  rw [← bNum_eq] at h
  exact h
theorem x_ok : SpecOK Try.prog 26 (specK1 xNum) :=
  spec1_ok Try.func26 (by decide +kernel) (by kernel_rfl) T7_ok mixed (by kernel_rfl) fun p _ => x_m p
theorem y_ok : SpecOK Try.prog 27 (specK1 yNum) :=
  spec1_ok Try.func27 (by decide +kernel) (by kernel_rfl) T7_ok mixed (by kernel_rfl) fun p _ => y_m p
theorem ptbytes_ok : SpecOK Try.prog 19 (specK1 bNum) :=
  spec1_ok Try.func19 (by decide +kernel) (by kernel_rfl) T7_ok mixed (by kernel_rfl) fun p _ => b_m p
/-- the same, and multiples, bytes, reading, with nothing known of them -/
structure POps extends AOps where
  pmul : X4 → Nat → X4
  pbase : X4
  pbytes : X4 → Nat
  px : X4 → Nat
  py : X4 → Nat
  pof : Nat → Option X4
noncomputable def pops : POps where
  toAOps := aops
  pmul := mulP
  pbase := base4
  pbytes := bNum
  px := xNum
  py := yNum
  pof := ofP
def T8 (o : POps) : List (FuncId × FnSpec) :=
  (15, spec2 dP dK fun p e => (.pv (ptP (o.pmul p e)), [])) ::
  (43, spec0 (.pv (ptP o.pbase))) ::
  (19, specK1 o.pbytes) ::
  (26, specK1 o.px) ::
  (27, specK1 o.py) ::
  (23, spec1 dK fun n => (.tup (optP (o.pof n)), [])) :: T7 o.toAOps
theorem T8_ok : TableOK Try.prog (lookT (T8 pops)) :=
  tableOK_cons mulP_ok (tableOK_cons base_ok (tableOK_cons ptbytes_ok (tableOK_cons x_ok (tableOK_cons y_ok (tableOK_cons ptof_ok T7_ok)))))

theorem baseK_x (o : POps) (e : Nat) : callX Try.prog (lookT (T8 o)) 300 Try.f13 [keyP e] = some (.pv (ptP (o.pmul o.pbase e)), []) := by kernel_rfl
def specBase : FnSpec := spec1 dK fun e => (.pv (ptP (mulP base4 e)), [])
theorem baseK_ok : SpecOK Try.prog 13 specBase :=
  spec1_ok Try.func13 (by decide +kernel) (by kernel_rfl) T8_ok mixed (by kernel_rfl) fun e _ => ⟨_, _, _, baseK_x pops e, trivial, ptP_val _, ptP_val _⟩
def T9 (o : POps) : List (FuncId × FnSpec) :=
  (13, spec1 dK fun e => (.pv (ptP (o.pmul o.pbase e)), [])) :: T8 o
theorem T9_ok : TableOK Try.prog (lookT (T9 pops)) := tableOK_cons baseK_ok T8_ok

end Go.Proofs.Ytahkpabndfaoiaa
