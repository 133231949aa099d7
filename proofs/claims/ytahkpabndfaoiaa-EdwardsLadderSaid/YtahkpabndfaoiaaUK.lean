/-
The reference's powers modulo the prime.
The reference's powers, differences, inverses, roots modulo the prime.
The reference's roots modulo the prime.
The reference's points as values: three numbers in a row; its curve: a number and a point.
The reference's points: sums, opposites, what is the same, x of y, the curve.
The reference's points: the curve, bytes, reading.
The reference's points: what the curve, bytes, reading come to.
-/
import Derived.Test.YtahkpabndfaoiaaUI
import Derived.Test.YtahkpabndfaoiaaUE
import Derived.Test.YtahkpabndfaoiaaUD
import Derived.Test.YtahkpabndfaoiaaUJ
import Derived.Test.YtahkpabndfaoiaaUF

/- The reference's powers modulo the prime. -/
namespace Go.Proofs.Ytahkpabndfaoiaa
open Eng Go Go.RowKit Go.Proofs

/-- numbers modulo the prime, with nothing known of their sums and products -/
structure QOps where
  add : Fin Ec.P → Fin Ec.P → Fin Ec.P
  mul : Fin Ec.P → Fin Ec.P → Fin Ec.P
  neg : Fin Ec.P → Fin Ec.P
  pow : Fin Ec.P → Nat → Fin Ec.P
def T20 (q : QOps) (r : ROps) : List (FuncId × FnSpec) :=
  (47, spec2 dR dR fun x y => (.pv (nmP (q.mul x y)), [])) ::
  (62, spec2 dR dR fun x y => (.pv (nmP (q.add x y)), [])) ::
  (46, spec1 dR fun x => (.pv (nmP (q.neg x)), [])) :: T10 r
noncomputable abbrev rpF : Func := Try.f77
def rpS (x : Fin Ec.P) (e : Nat) (cs : List Cell) (i : Int) : St := ⟨[.any, .any, ptv 2, ptv 3, ptv 4, ptv 5, .pv (iv i)] ++ List.replicate 22 .any,
  [[], [], [⟨[.nm x], 32, .var⟩], [⟨[.dig .u8 8 e 32], 23, .var⟩], [⟨zero16, 32, .var⟩], [⟨cs, 32, .var⟩]] ++ List.replicate 23 []⟩
def rpTd : Td := ⟨[2, 3, 4, 5, 6], [], []⟩
def bit8r (e j s : Nat) : Bool := decide ((((dg 8 e j).fdiv (2 ^ (min ((s : Nat) : Int).toNat 8))).tmod 2) = 1)
def bitR (e i : Nat) : Bool := bit8r e ((255 - i) / 8) ((255 - i) % 8)
theorem bit8r_spec (e j s : Nat) (h : s < 8) : bit8r e j s = (e / 2 ^ (8 * j + s) % 2 == 1) := by
  unfold bit8r
  rw [Int.toNat_natCast, Nat.min_eq_left (by omega)]
  have e1 : (dg 8 e j).fdiv (2 ^ s) = ((e / 2 ^ (8 * j) % 2 ^ 8 / 2 ^ s : Nat) : Int) := by
    unfold dg
    rw [Int.fdiv_eq_ediv_of_nonneg _ (by exact Int.pow_nonneg (by decide)), ← Fw.pow_cast, Int.natCast_ediv]
  rw [e1]
  have h8 : 2 ^ 8 = 2 ^ s * 2 ^ (8 - s) := by rw [← Nat.pow_add]; congr 1; omega
  have e2 : e / 2 ^ (8 * j) % 2 ^ 8 / 2 ^ s % 2 = e / 2 ^ (8 * j + s) % 2 := by
    rw [h8, Nat.mod_mul_right_div_self, Nat.mod_mod_of_dvd _ ⟨2 ^ (7 - s), by rw [← Nat.pow_succ']; congr 1; omega⟩, Nat.div_div_eq_div_mul, ← Nat.pow_add]
  rw [← e2]
  generalize e / 2 ^ (8 * j) % 2 ^ 8 / 2 ^ s = y
  have e3 : ((y : Nat) : Int).tmod 2 = ((y % 2 : Nat) : Int) := by rw [Int.tmod_eq_emod_of_nonneg (Int.natCast_nonneg _)]; rfl
  rw [e3, Bool.eq_iff_iff, decide_eq_true_eq, beq_iff_eq]
  omega
theorem bitR_is (e i : Nat) (h : i < 256) : bitR e i = bitAt e i := by
  unfold bitR
  rw [bitAt_spec e i h, bit8r_spec _ _ _ (by omega)]
  have : 8 * ((255 - i) / 8) + (255 - i) % 8 = 255 - i := by omega
  rw [this]
section
variable (q : QOps) (r : ROps) (x z : Fin Ec.P) (e : Nat)
theorem rp_first : runS Try.prog (lookT (T20 q r)) rpF 1 rpTd 300 [.code (bodyOf rpF)] (Eng.start rpF.ntmps [nmP x, keyP e]) =
    some (.at (.code (.loop (hd rpF).1) :: (hd rpF).2) (rpS x e [.dig .u64 16 1 16] 255), [Fw.W 1]) := by kernel_rfl
theorem rp_rounds : (List.range 256).map (fun (i : Nat) => runS Try.prog (lookT (T20 q r)) rpF 1 rpTd 300 (.code (hd rpF).1 :: .lp (hd rpF).1 :: (hd rpF).2) (rpS x e [.nm z] (255 - (i : Int)))) =
    (List.range 256).map fun (i : Nat) => cond (bitR e i) (some (.at (.lp (hd rpF).1 :: (hd rpF).2) (rpS x e [.nm (q.mul (q.mul z z) x)] (255 - ((i + 1 : Nat) : Int))), [])) (some (.at (.lp (hd rpF).1 :: (hd rpF).2) (rpS x e [.nm (q.mul z z)] (255 - ((i + 1 : Nat) : Int))), [])) := by kernel_rfl
theorem rp_last : runS Try.prog (lookT (T20 q r)) rpF 1 rpTd 300 (.code (hd rpF).1 :: .lp (hd rpF).1 :: (hd rpF).2) (rpS x e [.nm z] (255 - ((256 : Nat) : Int))) =
    some (.out (.val (.pv (nmP z))), []) := by kernel_rfl
end
end Go.Proofs.Ytahkpabndfaoiaa

/- The reference's powers, differences, inverses, roots modulo the prime. -/
namespace Eng
open Go
/-- halved, digit by digit -/
def halfD : List Int → List Int
  | [] => []
  | [a] => [wu (a.tdiv 2)]
  | a :: b :: l => wu (wu (a.tdiv 2) + wu (b.tmod 2 * 32768)) :: halfD (b :: l)
def halfN : Nat → List Int → List Int
  | 0, l => l
  | n + 1, l => halfN n (halfD l)
end Eng
namespace Go.Proofs.Ytahkpabndfaoiaa
open Eng Go Go.RowKit Go.Proofs

def qops : QOps where
  add x y := x + y
  mul x y := x * y
  neg x := -x
  pow x e := x ^ (e % 2 ^ 256)
theorem T20_ok : TableOK Try.prog (lookT (T20 qops rops)) := tableOK_cons rmul_ok (tableOK_cons radd_ok (tableOK_cons rneg_ok T10_ok))

theorem rp_loop (x : Fin Ec.P) (e : Nat) : ∀ n i (z : Fin Ec.P), 256 - i = n → i ≤ 256 → z = x ^ top e i →
    Goes Try.prog (lookT (T20 qops rops)) rpF (OutIs (.val (.pv (nmP (x ^ (e % 2 ^ 256)))))) (.code (hd rpF).1 :: .lp (hd rpF).1 :: (hd rpF).2) (rpS x e [.nm z] (255 - (i : Int))) := by
  intro n
  induction n with
  | zero =>
    intro i z hn hi hz
    have : i = 256 := by omega
    subst this
    rw [top_all] at hz
    subst hz
    exact .out 1 rpTd 300 (rp_last qops rops x _ e) trivial ⟨_, nmP_val _, nmP_val _⟩
  | succ n ih =>
    intro i z hn hi hz
    have hi' : i < 256 := by omega
    have hx := map_range_eq (rp_rounds qops rops x z e) hi'
    have ht := top_succ e i hi'
    rw [bitR_is e i hi'] at hx
    have k1 := pow_dbl x (top e i)
    have k2 := pow_dbl1 x (top e i)
    rw [← hz] at k1 k2
    generalize bitAt e i = c at *
    cases c with
    | true => exact .at 1 rpTd 300 hx trivial (.lp (ih (i + 1) _ (by omega) (by omega) (by rw [ht]; exact k2)))
    | false => exact .at 1 rpTd 300 hx trivial (.lp (ih (i + 1) _ (by omega) (by omega) (by rw [ht]; exact k1)))
theorem one_cells (ρ : Env) : denCs ρ [.dig .u64 16 1 16] = denCs ρ [.nm (toF 1)] := rfl
theorem rpow_ok : SpecOK Try.prog 77 (spec2 dR dK fun x e => (.pv (nmP (x ^ (e % 2 ^ 256))), [])) :=
  goes2_ok T20_ok mixed Try.func77 (by decide +kernel) (by kernel_rfl) (by kernel_rfl) (fun x e => ⟨_, nmP_val _⟩) fun x e _ => by
    refine .at 1 rpTd 300 (rp_first qops rops x e) ⟨Fw.W_lit (by decide) (by decide), trivial⟩ (.loop ?_)
    refine .cells 5 [.nm (toF 1)] one_cells ?_
    exact rp_loop x e 256 0 (toF 1) rfl (by decide) (by rw [top_zero, pow_nil]; rfl)

def minL (p a s : Nat) : List Int := halfN s ((digI 16 p 16).set 0 (wu (dg 16 p 0 - a)))
def minN (a s : Int) : Nat := (Ec.P - a.toNat) / 2 ^ s.toNat
def minOk (a s : Int) : Prop := (a = 2 ∧ s = 0) ∨ (a = 1 ∧ s = 1) ∨ (a = 5 ∧ s = 3) ∨ (a = 1 ∧ s = 2)
theorem min_x1 (r : ROps) : callX Try.prog (lookT (T10 r)) 3000 Try.f78 [u64 2, iv 0] = some (.pv (keyP (numI 16 (minL r.prime 2 0))), [∀ a ∈ minL r.prime 2 0, 0 ≤ a ∧ a < 65536]) := by kernel_rfl
theorem min_x2 (r : ROps) : callX Try.prog (lookT (T10 r)) 3000 Try.f78 [u64 1, iv 1] = some (.pv (keyP (numI 16 (minL r.prime 1 1))), [∀ a ∈ minL r.prime 1 1, 0 ≤ a ∧ a < 65536]) := by kernel_rfl
theorem min_x3 (r : ROps) : callX Try.prog (lookT (T10 r)) 3000 Try.f78 [u64 5, iv 3] = some (.pv (keyP (numI 16 (minL r.prime 5 3))), [∀ a ∈ minL r.prime 5 3, 0 ≤ a ∧ a < 65536]) := by kernel_rfl
theorem min_x4 (r : ROps) : callX Try.prog (lookT (T10 r)) 3000 Try.f78 [u64 1, iv 2] = some (.pv (keyP (numI 16 (minL r.prime 1 2))), [∀ a ∈ minL r.prime 1 2, 0 ≤ a ∧ a < 65536]) := by kernel_rfl
theorem min_v1 : numI 16 (minL Ec.P 2 0) = minN 2 0 ∧ (∀ a ∈ minL Ec.P 2 0, 0 ≤ a ∧ a < 65536) := by decide +kernel
theorem min_v2 : numI 16 (minL Ec.P 1 1) = minN 1 1 ∧ (∀ a ∈ minL Ec.P 1 1, 0 ≤ a ∧ a < 65536) := by decide +kernel
theorem min_v3 : numI 16 (minL Ec.P 5 3) = minN 5 3 ∧ (∀ a ∈ minL Ec.P 5 3, 0 ≤ a ∧ a < 65536) := by decide +kernel
theorem min_v4 : numI 16 (minL Ec.P 1 2) = minN 1 2 ∧ (∀ a ∈ minL Ec.P 1 2, 0 ≤ a ∧ a < 65536) := by decide +kernel
def specMin : FnSpec := spec2 (dI .u64) (dI .i64) fun a s => (.pv (keyP (minN a s)), [minOk a s])
theorem min_ok : SpecOK Try.prog 78 specMin :=
  spec2_ok Try.func78 (by decide +kernel) (by kernel_rfl) T10_ok mixed (by kernel_rfl) fun a s h => by
    rcases h.1 with ⟨rfl, rfl⟩ | ⟨rfl, rfl⟩ | ⟨rfl, rfl⟩ | ⟨rfl, rfl⟩
    · exact ⟨_, _, _, min_x1 rops, ⟨min_v1.2, trivial⟩, keyP_val _, by rw [rops_prime, min_v1.1]; exact keyP_val _⟩
    · exact ⟨_, _, _, min_x2 rops, ⟨min_v2.2, trivial⟩, keyP_val _, by rw [rops_prime, min_v2.1]; exact keyP_val _⟩
    · exact ⟨_, _, _, min_x3 rops, ⟨min_v3.2, trivial⟩, keyP_val _, by rw [rops_prime, min_v3.1]; exact keyP_val _⟩
    · exact ⟨_, _, _, min_x4 rops, ⟨min_v4.2, trivial⟩, keyP_val _, by rw [rops_prime, min_v4.1]; exact keyP_val _⟩

def T21 (q : QOps) (r : ROps) : List (FuncId × FnSpec) :=
  (77, spec2 dR dK fun x e => (.pv (nmP (q.pow x e)), [])) ::
  (78, specMin) :: T20 q r
theorem T21_ok : TableOK Try.prog (lookT (T21 qops rops)) := tableOK_cons rpow_ok (tableOK_cons min_ok T20_ok)
theorem rsub_x (q : QOps) (r : ROps) (x y : Fin Ec.P) : callX Try.prog (lookT (T21 q r)) 300 Try.f63 [nmP x, nmP y] = some (.pv (nmP (q.add x (q.neg y))), []) := by kernel_rfl
theorem rinv_x (q : QOps) (r : ROps) (x : Fin Ec.P) : callX Try.prog (lookT (T21 q r)) 300 Try.f49 [nmP x] = some (.pv (nmP (q.pow x (minN 2 0))), [minOk 2 0]) := by kernel_rfl
end Go.Proofs.Ytahkpabndfaoiaa

/- The reference's roots modulo the prime. -/
namespace Go.Proofs.Ytahkpabndfaoiaa
open Eng Go Go.RowKit Go.Proofs

structure UOps extends QOps where
  sub : Fin Ec.P → Fin Ec.P → Fin Ec.P
  inv : Fin Ec.P → Fin Ec.P
def T22 (q : UOps) (r : ROps) : List (FuncId × FnSpec) :=
  (63, spec2 dR dR fun x y => (.pv (nmP (q.sub x y)), [])) ::
  (49, spec1 dR fun x => (.pv (nmP (q.inv x)), [])) :: T21 q.toQOps r

def zeroL : List Int := List.replicate 16 0
def isZ (x : Fin Ec.P) : Bool := eqL (digI 16 x.val 16) zeroL
def eqN (x : Fin Ec.P) (n : Nat) : Bool := eqL (digI 16 x.val 16) (digI 16 n 16)
def oddR (x : Fin Ec.P) : Bool := decide ((dg 16 x.val 0).tmod 2 = 1)
section
variable (q : UOps) (r : ROps) (u v : Fin Ec.P)
def UOps.q1 : Fin Ec.P := q.mul u (q.inv v)
def UOps.x1 : Fin Ec.P := q.mul (q.q1 u v) (q.pow (q.q1 u v) (minN 5 3))
def UOps.x2 : Fin Ec.P := q.mul (q.x1 u v) (q.pow (toF 2) (minN 1 2))
def tupR (x : Fin Ec.P) (b : Bool) : SV := .tup [nmP x, bo b]
def tupZ (b : Bool) : SV := .tup [.agg (intsC .u64 zeroL), bo b]
def rootRes : Option (SV × List Prop) := cond (isZ v) (some (tupZ (isZ u), [])) (cond (isZ (q.q1 u v)) (some (tupR (q.q1 u v) true, []))
  (cond (!eqN (q.pow (q.q1 u v) (minN 1 1)) 1) (some (tupZ false, [minOk 1 1, Fw.W 1]))
    (cond (!eqN (q.mul (q.x1 u v) (q.x1 u v)) (q.q1 u v).val)
      (cond (oddR (q.x2 u v)) (some (tupR (q.neg (q.x2 u v)) true, [Fw.W 2, minOk 1 2, 2 < Ec.P, minOk 5 3, minOk 1 1, Fw.W 1])) (some (tupR (q.x2 u v) true, [Fw.W 2, minOk 1 2, 2 < Ec.P, minOk 5 3, minOk 1 1, Fw.W 1])))
      (cond (oddR (q.x1 u v)) (some (tupR (q.neg (q.x1 u v)) true, [minOk 5 3, minOk 1 1, Fw.W 1])) (some (tupR (q.x1 u v) true, [minOk 5 3, minOk 1 1, Fw.W 1]))))))
theorem rroot_x : callX Try.prog (lookT (T22 q r)) 300 Try.f79 [nmP u, nmP v] = rootRes q u v := by kernel_rfl
end

theorem add_neg_eq {n : Nat} [NeZero n] (x y : Fin n) : x + -y = x - y := by grind
theorem rsub_ok : SpecOK Try.prog 63 (spec2 dR dR fun x y => (.pv (nmP (x - y)), [])) :=
  spec2_ok Try.func63 (by decide +kernel) (by kernel_rfl) T21_ok mixed (by kernel_rfl) fun x y _ => by
    refine ⟨_, _, _, rsub_x qops rops x y, trivial, nmP_val _, ?_⟩
    have : qops.add x (qops.neg y) = x - y := add_neg_eq x y
    rw [this]
    exact nmP_val _
theorem min_e1 : minN 2 0 % 2 ^ 256 = Ec.P - 2 := by decide +kernel
theorem min_e2 : minN 1 1 % 2 ^ 256 = 4 * Ec.M8 + 2 := by decide +kernel
theorem min_e3 : minN 5 3 % 2 ^ 256 = Ec.M8 := by decide +kernel
theorem min_e4 : minN 1 2 % 2 ^ 256 = 2 * Ec.M8 + 1 := by decide +kernel
theorem qpow_1 (x : Fin Ec.P) : qops.pow x (minN 2 0) = Ec.inv x := congrArg (fun n => x ^ n) min_e1
theorem qpow_2 (x : Fin Ec.P) : qops.pow x (minN 1 1) = x ^ (4 * Ec.M8 + 2) := congrArg (fun n => x ^ n) min_e2
theorem qpow_3 (x : Fin Ec.P) : qops.pow x (minN 5 3) = x ^ Ec.M8 := congrArg (fun n => x ^ n) min_e3
theorem qpow_4 (x : Fin Ec.P) : qops.pow x (minN 1 2) = x ^ (2 * Ec.M8 + 1) := congrArg (fun n => x ^ n) min_e4
theorem rinv_ok : SpecOK Try.prog 49 (spec1 dR fun x => (.pv (nmP (Ec.inv x)), [])) :=
  spec1_ok Try.func49 (by decide +kernel) (by kernel_rfl) T21_ok mixed (by kernel_rfl) fun x _ => by
    refine ⟨_, _, _, rinv_x qops rops x, ⟨.inl ⟨rfl, rfl⟩, trivial⟩, nmP_val _, ?_⟩
    rw [qpow_1]
    exact nmP_val _
def uops : UOps where
  toQOps := qops
  sub x y := x - y
  inv x := Ec.inv x
theorem T22_ok : TableOK Try.prog (lookT (T22 uops rops)) := tableOK_cons rsub_ok (tableOK_cons rinv_ok T21_ok)

theorem eqN_is (x : Fin Ec.P) (n : Nat) (h : n < Ec.P) : eqN x n = decide (x = toF n) := by
  unfold eqN
  rw [eqL_dig, Nat.mod_eq_of_lt (fin_lt x), Nat.mod_eq_of_lt (Nat.lt_trans h (by decide)), Bool.eq_iff_iff]
  simp only [decide_eq_true_eq]
  constructor
  · intro e
    exact Fin.ext (by rw [e]; exact (Nat.mod_eq_of_lt h).symm)
  · intro e
    rw [e]
    exact Nat.mod_eq_of_lt h
theorem zero_nm : digI 16 0 16 = zeroL := by decide
theorem isZ_is (x : Fin Ec.P) : isZ x = decide (x = 0) := by
  have h := eqN_is x 0 (by decide)
  unfold eqN at h
  rw [zero_nm] at h
  exact h
theorem eqV_is (x y : Fin Ec.P) : eqN x y.val = decide (x = y) := by
  rw [eqN_is x y.val y.isLt, toF_val]
theorem oddR_is (x : Fin Ec.P) : oddR x = (x.val % 2 == 1) := by
  unfold oddR
  rw [dg_nat]
  have e3 : ((x.val / 2 ^ (16 * 0) % 2 ^ 16 : Nat) : Int).tmod 2 = ((x.val % 2 : Nat) : Int) := by
    rw [Int.tmod_eq_emod_of_nonneg (Int.natCast_nonneg _)]
    have : x.val / 2 ^ (16 * 0) % 2 ^ 16 % 2 = x.val % 2 := by
      rw [Nat.mul_zero, Nat.pow_zero, Nat.div_one]
      omega
    omega
  rw [e3, Bool.eq_iff_iff, decide_eq_true_eq, beq_iff_eq]
  omega
theorem tupR_val (x : Fin Ec.P) (b : Bool) : (tupR x b).val? = some (.tuple #[nmV x, .bool b]) := rfl
theorem tupZ_val (b : Bool) : (tupZ b).val? = some (.tuple #[nmV 0, .bool b]) := by
  have h : (PV.agg (intsC .u64 zeroL)).val? = some (nmV 0) := by
    rw [← zero_nm]
    exact intsP_val _ _
  unfold tupZ
  simp only [SV.val?, pvVals, h]
  rfl
theorem root_shape {c0 c1 c2 c3 c4 c5 c6 : Bool} {q m2 x2 m1 x1 : Fin Ec.P} {o1 o2 o3 : List Prop} (h1 : AllP o1) (h2 : AllP o2) (h3 : AllP o3) :
    Meets (cond c1 (some (tupZ c0, [])) (cond c2 (some (tupR q true, [])) (cond (!c3) (some (tupZ false, o1)) (cond (!c4) (cond c5 (some (tupR m2 true, o2)) (some (tupR x2 true, o2))) (cond c6 (some (tupR m1 true, o3)) (some (tupR x1 true, o3)))))))
      (tupR (cond c1 (0, c0) (cond c2 (q, true) (cond (!c3) (0, false) (cond (!c4) (cond c5 m2 x2, true) (cond c6 m1 x1, true))))).1
        (cond c1 (0, c0) (cond c2 (q, true) (cond (!c3) (0, false) (cond (!c4) (cond c5 m2 x2, true) (cond c6 m1 x1, true))))).2) := by
  cases c1 with
  | true => exact ⟨_, _, _, rfl, trivial, tupZ_val _, tupR_val _ _⟩
  | false =>
    cases c2 with
    | true => exact ⟨_, _, _, rfl, trivial, tupR_val _ _, tupR_val _ _⟩
    | false =>
      cases c3 with
      | false => exact ⟨_, _, _, rfl, h1, tupZ_val _, tupR_val _ _⟩
      | true =>
        cases c4 with
        | false => cases c5 <;> exact ⟨_, _, _, rfl, h2, tupR_val _ _, tupR_val _ _⟩
        | true => cases c6 <;> exact ⟨_, _, _, rfl, h3, tupR_val _ _, tupR_val _ _⟩
theorem root2_is {m : Nat} (u v q x1 x2 : Fin Ec.P) (hq : u * Ec.inv v = q) (h1 : q * q ^ m = x1) (h2 : x1 * 2 ^ (2 * m + 1) = x2) : Ec.root2 m u v =
    cond (decide (v = 0)) (0, decide (u = 0)) (cond (decide (q = 0)) (q, true) (cond (!decide (q ^ (4 * m + 2) = 1)) (0, false) (cond (!decide (x1 * x1 = q)) (cond (x2.val % 2 == 1) (-x2) x2, true) (cond (x1.val % 2 == 1) (-x1) x1, true)))) := by
  subst hq
  subst h1
  subst h2
  rfl
theorem uops_mul (x y : Fin Ec.P) : uops.mul x y = x * y := rfl
theorem uops_inv (x : Fin Ec.P) : uops.inv x = Ec.inv x := rfl
theorem uops_neg (x : Fin Ec.P) : uops.neg x = -x := rfl
theorem uops_q : uops.toQOps = qops := rfl
theorem q1_of (q : UOps) (hm : ∀ x y, q.mul x y = x * y) (hi : ∀ x, q.inv x = Ec.inv x) (u v : Fin Ec.P) : u * Ec.inv v = q.q1 u v := by
  unfold UOps.q1
  rw [hm, hi]
theorem x1_of (q : UOps) (hm : ∀ x y, q.mul x y = x * y) (hp : ∀ x, q.pow x (minN 5 3) = x ^ Ec.M8) (u v : Fin Ec.P) : q.q1 u v * (q.q1 u v) ^ Ec.M8 = q.x1 u v := by
  unfold UOps.x1
  rw [hm, hp]
theorem x2_of (q : UOps) (hm : ∀ x y, q.mul x y = x * y) (hp : ∀ x, q.pow x (minN 1 2) = x ^ (2 * Ec.M8 + 1)) (h2 : (toF 2 : Fin Ec.P) = 2) (u v : Fin Ec.P) : q.x1 u v * 2 ^ (2 * Ec.M8 + 1) = q.x2 u v := by
  unfold UOps.x2
  rw [hm, hp, h2]
theorem uops_p2 (x : Fin Ec.P) : uops.pow x (minN 1 1) = x ^ (4 * Ec.M8 + 2) := by rw [uops_q, qpow_2]
theorem uops_p3 (x : Fin Ec.P) : uops.pow x (minN 5 3) = x ^ Ec.M8 := by rw [uops_q, qpow_3]
theorem uops_p4 (x : Fin Ec.P) : uops.pow x (minN 1 2) = x ^ (2 * Ec.M8 + 1) := by rw [uops_q, qpow_4]
theorem two_toF' : (toF 2 : Fin Ec.P) = 2 := rfl
theorem one_toF' : (toF 1 : Fin Ec.P) = 1 := rfl
theorem rootRes_of (q : UOps) (hm : ∀ x y, q.mul x y = x * y) (hn : ∀ x, q.neg x = -x) (hp : ∀ x, q.pow x (minN 1 1) = x ^ (4 * Ec.M8 + 2)) (h1 : (toF 1 : Fin Ec.P) = 1) (u v : Fin Ec.P) : rootRes q u v = cond (decide (v = 0)) (some (tupZ (decide (u = 0)), [])) (cond (decide (q.q1 u v = 0)) (some (tupR (q.q1 u v) true, []))
  (cond (!decide ((q.q1 u v) ^ (4 * Ec.M8 + 2) = 1)) (some (tupZ false, [minOk 1 1, Fw.W 1]))
    (cond (!decide (q.x1 u v * q.x1 u v = q.q1 u v))
      (cond ((q.x2 u v).val % 2 == 1) (some (tupR (-(q.x2 u v)) true, [Fw.W 2, minOk 1 2, 2 < Ec.P, minOk 5 3, minOk 1 1, Fw.W 1])) (some (tupR (q.x2 u v) true, [Fw.W 2, minOk 1 2, 2 < Ec.P, minOk 5 3, minOk 1 1, Fw.W 1])))
      (cond ((q.x1 u v).val % 2 == 1) (some (tupR (-(q.x1 u v)) true, [minOk 5 3, minOk 1 1, Fw.W 1])) (some (tupR (q.x1 u v) true, [minOk 5 3, minOk 1 1, Fw.W 1])))))) := by
  unfold rootRes
  rw [isZ_is, isZ_is, isZ_is, hp, eqN_is _ 1 (by decide), eqV_is, oddR_is, oddR_is, hm, hn, hn, h1]
theorem meets_of (q : UOps) (hm : ∀ x y, q.mul x y = x * y) (hn : ∀ x, q.neg x = -x) (hi : ∀ x, q.inv x = Ec.inv x) (hp : ∀ x, q.pow x (minN 1 1) = x ^ (4 * Ec.M8 + 2)) (hp3 : ∀ x, q.pow x (minN 5 3) = x ^ Ec.M8) (hp4 : ∀ x, q.pow x (minN 1 2) = x ^ (2 * Ec.M8 + 1)) (u v : Fin Ec.P) :
    Meets (rootRes q u v) (tupR (Ec.rootP u v).1 (Ec.rootP u v).2) := by
  have o1 : minOk 1 1 := .inr (.inl ⟨rfl, rfl⟩)
  have o2 : minOk 1 2 := .inr (.inr (.inr ⟨rfl, rfl⟩))
  have o3 : minOk 5 3 := .inr (.inr (.inl ⟨rfl, rfl⟩))
  have w1 : Fw.W 1 := Fw.W_lit (by decide) (by decide)
  have w2 : Fw.W 2 := Fw.W_lit (by decide) (by decide)
  have p2 : 2 < Ec.P := by decide
  rw [← Ec.rootP_eq, root2_is u v _ _ _ (q1_of q hm hi u v) (x1_of q hm hp3 u v) (x2_of q hm hp4 two_toF' u v), rootRes_of q hm hn hp one_toF']
  generalize q.x2 u v = x2
  generalize q.x1 u v = x1
  generalize q.q1 u v = q1
  generalize decide (q1 ^ (4 * Ec.M8 + 2) = 1) = c
  exact root_shape ⟨o1, w1, trivial⟩ ⟨w2, o2, p2, o3, o1, w1, trivial⟩ ⟨o3, o1, w1, trivial⟩
theorem rroot_ok : SpecOK Try.prog 79 (spec2 dR dR fun u v => (tupR (Ec.rootP u v).1 (Ec.rootP u v).2, [])) :=
  spec2_ok Try.func79 (by decide +kernel) (by kernel_rfl) T22_ok mixed (by kernel_rfl) fun u v _ => by
    have h := meets_of uops uops_mul uops_neg uops_inv uops_p2 uops_p3 uops_p4 u v
    rw [← rroot_x uops rops u v] at h
    exact h
end Go.Proofs.Ytahkpabndfaoiaa

/- The reference's points as values: three numbers in a row; its curve: a number and a point. -/
namespace Eng
open Go Go.RowKit Ec

def takeN : List Cell → Option (Fin Ec.P × List Prop × List Cell)
  | .nm x :: l => some (x, [], l)
  | .dig .u64 16 n 16 :: l => some (toF n, [n < Ec.P], l)
  | l => match decInts .u64 (l.take 16) with
    | some m => cond (Nat.beq m.length 16) (some (toF (numI 16 m), [numI 16 m < Ec.P ∧ ∀ a ∈ m, 0 ≤ a ∧ a < 65536], l.drop 16)) none
    | none => none

def nmL (x : Fin Ec.P) : List Value := (digI 16 x.val 16).map (Value.int .u64)
theorem toF_dig {n : Nat} (h : n < Ec.P) : digI 16 (toF n).val 16 = digI 16 n 16 := by
  unfold toF
  simp only [Nat.mod_eq_of_lt h]
theorem takeN_spec {ρ : Env} {cs l : List Cell} {x : Fin Ec.P} {pre : List Prop} {v : List Value} (h : takeN cs = some (x, pre, l)) (hp : AllP pre) (e : denCs ρ cs = some v) :
    ∃ w, denCs ρ l = some w ∧ v = nmL x ++ w := by
  unfold takeN at h
  split at h
  · cases h
    obtain ⟨a, b, e1, e2, rfl⟩ := denCs_app (cs := [.nm x]) e
    refine ⟨b, e2, ?_⟩
    simp only [denCs, denC, digL_I] at e1
    cases e1
    simp [nmL]
  · rename_i n l'
    cases h
    obtain ⟨a, b, e1, e2, rfl⟩ := denCs_app (cs := [.dig .u64 16 n 16]) e
    refine ⟨b, e2, ?_⟩
    simp only [denCs, denC, digL_I] at e1
    cases e1
    unfold nmL
    rw [toF_dig hp.1]
    simp
  · cases hd : decInts .u64 (cs.take 16) with
    | none => simp [hd] at h
    | some m =>
      simp only [hd] at h
      cases hb : Nat.beq m.length 16 with
      | false => rw [hb] at h; cases h
      | true =>
        rw [hb] at h
        cases h
        have hl : m.length = 16 := Nat.eq_of_beq_eq_true hb
        have e' := e
        rw [← List.take_append_drop 16 cs] at e'
        obtain ⟨a, b, e1, e2, rfl⟩ := denCs_app e'
        refine ⟨b, e2, ?_⟩
        rw [decInts_spec hd] at e1
        cases e1
        unfold nmL
        rw [toF_dig hp.1.1]
        have := digI_numI (w := 16) (l := m) hp.1.2
        rw [hl] at this
        rw [this]

/-- points -/
def r3P (p : R3) : PV := .agg [.nm p.x, .nm p.y, .nm p.z]
def r3V (p : R3) : Value := .agg (nmL p.x ++ nmL p.y ++ nmL p.z).toArray
theorem r3P_val (p : R3) : (r3P p).val? = some (r3V p) := rfl
def decR3 (p : PV) : Option (R3 × List Prop) := match p with
  | .one _ => none
  | .agg cs => match takeN cs with
    | some (x, p1, cs) => match takeN cs with
      | some (y, p2, cs) => match takeN cs with
        | some (z, p3, []) => some (⟨x, y, z⟩, p1 ++ (p2 ++ p3))
        | _ => none
      | none => none
    | none => none
def dR3 : Dec R3 where
  dec := decR3
  can := r3P
  law := by
    intro p x pre ρ v h hp e
    unfold decR3 at h
    split at h
    · cases h
    · rename_i cs
      split at h
      · rename_i x1 p1 c1 h1
        split at h
        · rename_i x2 p2 c2 h2
          split at h
          · rename_i x3 p3 h3
            cases h
            obtain ⟨q1, hp⟩ := AllP_append hp
            obtain ⟨q2, q3⟩ := AllP_append hp
            simp only [denP] at e
            cases hd : denCs ρ cs with
            | none => simp [hd] at e
            | some vs =>
              simp only [hd] at e
              cases e
              obtain ⟨w1, e1, rfl⟩ := takeN_spec h1 q1 hd
              obtain ⟨w2, e2, rfl⟩ := takeN_spec h2 q2 e1
              obtain ⟨w3, e3, rfl⟩ := takeN_spec h3 q3 e2
              simp only [denCs] at e3
              cases e3
              rw [r3P_val]
              unfold r3V
              simp
          · cases h
        · cases h
      · cases h

/-- the curve: its number, its base -/
structure Cv where
  d : Fin Ec.P
  b : R3
def cvP (c : Cv) : PV := .agg [.nm c.d, .nm c.b.x, .nm c.b.y, .nm c.b.z]
def cvV (c : Cv) : Value := .agg (nmL c.d ++ nmL c.b.x ++ nmL c.b.y ++ nmL c.b.z).toArray
theorem cvP_val (c : Cv) : (cvP c).val? = some (cvV c) := rfl
def decCv (p : PV) : Option (Cv × List Prop) := match p with
  | .one _ => none
  | .agg cs => match takeN cs with
    | some (d, p0, cs) => match takeN cs with
      | some (x, p1, cs) => match takeN cs with
        | some (y, p2, cs) => match takeN cs with
          | some (z, p3, []) => some (⟨d, ⟨x, y, z⟩⟩, p0 ++ (p1 ++ (p2 ++ p3)))
          | _ => none
        | none => none
      | none => none
    | none => none
def dCv : Dec Cv where
  dec := decCv
  can := cvP
  law := by
    intro p x pre ρ v h hp e
    unfold decCv at h
    split at h
    · cases h
    · rename_i cs
      split at h
      · rename_i x0 p0 c0 h0
        split at h
        · rename_i x1 p1 c1 h1
          split at h
          · rename_i x2 p2 c2 h2
            split at h
            · rename_i x3 p3 h3
              cases h
              obtain ⟨q0, hp⟩ := AllP_append hp
              obtain ⟨q1, hp⟩ := AllP_append hp
              obtain ⟨q2, q3⟩ := AllP_append hp
              simp only [denP] at e
              cases hd : denCs ρ cs with
              | none => simp [hd] at e
              | some vs =>
                simp only [hd] at e
                cases e
                obtain ⟨w0, e0, rfl⟩ := takeN_spec h0 q0 hd
                obtain ⟨w1, e1, rfl⟩ := takeN_spec h1 q1 e0
                obtain ⟨w2, e2, rfl⟩ := takeN_spec h2 q2 e1
                obtain ⟨w3, e3, rfl⟩ := takeN_spec h3 q3 e2
                simp only [denCs] at e3
                cases e3
                rw [cvP_val]
                unfold cvV
                simp
            · cases h
          · cases h
        · cases h
      · cases h

end Eng
namespace Go.Proofs.Ytahkpabndfaoiaa
open Eng Go Go.RowKit Go.Proofs Ec

structure VOps extends UOps where
  root : Fin Ec.P → Fin Ec.P → Fin Ec.P × Bool
def T23 (q : VOps) (r : ROps) : List (FuncId × FnSpec) :=
  (79, spec2 dR dR fun u v => (tupR (q.root u v).1 (q.root u v).2, [])) :: T22 q.toUOps r
def vops : VOps where
  toUOps := uops
  root u v := Ec.rootP u v
theorem T23_ok : TableOK Try.prog (lookT (T23 vops rops)) := tableOK_cons rroot_ok T22_ok
end Go.Proofs.Ytahkpabndfaoiaa

/- The reference's points: sums, opposites, what is the same, x of y, the curve. -/
namespace Go.Proofs.Ytahkpabndfaoiaa
open Eng Go Go.RowKit Go.Proofs Ec

def VOps.xx (q : VOps) (d y : Fin Ec.P) : Fin Ec.P × Bool := q.root (q.sub (q.mul y y) (toF 1)) (q.add (q.mul d (q.mul y y)) (toF 1))
section
variable (q : VOps) (r : ROps)
theorem cx_x (c : Cv) (y : Fin Ec.P) : callX Try.prog (lookT (T23 q r)) 300 Try.f50 [cvP c, nmP y] = some (tupR (q.xx c.d y).1 (q.xx c.d y).2, [1 < Ec.P, 1 < Ec.P, Fw.W 1]) := by kernel_rfl
def noughtP : PV := .agg (intsC .u64 zeroL ++ [.dig .u64 16 1 16, .dig .u64 16 1 16])
theorem cn_x : callX Try.prog (lookT (T23 q r)) 300 Try.f53 [] = some (.pv noughtP, [Fw.W 1, Fw.W 1]) := by kernel_rfl
def VOps.radd (q : VOps) (d : Fin Ec.P) (p r : Ec.R3) : Ec.R3 :=
  let z := q.mul p.z r.z
  let xw := q.mul p.x r.y
  let zy := q.mul r.x p.y
  let yw := q.mul p.y r.y
  let xz := q.mul p.x r.x
  let zz := q.mul z z
  let d := q.mul d (q.mul xw zy)
  let up := q.add zz d
  let down := q.sub zz d
  ⟨q.mul (q.mul (q.add xw zy) z) down, q.mul (q.mul (q.add yw xz) z) up, q.mul up down⟩
theorem ca_x (c : Cv) (a b : Ec.R3) : callX Try.prog (lookT (T23 q r)) 300 Try.f28 [cvP c, r3P a, r3P b] = some (.pv (r3P (q.radd c.d a b)), []) := by kernel_rfl
theorem cg_x (a : Ec.R3) : callX Try.prog (lookT (T23 q r)) 300 Try.f30 [r3P a] = some (.pv (r3P ⟨q.neg a.x, a.y, a.z⟩), []) := by kernel_rfl
theorem cf_x (a : Ec.R3) : callX Try.prog (lookT (T23 q r)) 300 Try.f25 [r3P a] = some (.tup [nmP (q.mul a.x (q.inv a.z)), nmP (q.mul a.y (q.inv a.z))], []) := by kernel_rfl
theorem cs_x (a b : Ec.R3) : callX Try.prog (lookT (T23 q r)) 300 Try.f31 [r3P a, r3P b] =
    cond (eqN (q.mul a.x b.z) (q.mul b.x a.z).val) (some (.pv (bo (eqN (q.mul a.y b.z) (q.mul b.y a.z).val)), [])) (some (.pv (bo false), [])) := by kernel_rfl
end

theorem v_mul (x y : Fin Ec.P) : vops.mul x y = x * y := rfl
theorem v_add (x y : Fin Ec.P) : vops.add x y = x + y := rfl
theorem v_sub (x y : Fin Ec.P) : vops.sub x y = x - y := rfl
theorem v_neg (x : Fin Ec.P) : vops.neg x = -x := rfl
theorem v_inv (x : Fin Ec.P) : vops.inv x = Ec.inv x := rfl
theorem v_root (x y : Fin Ec.P) : vops.root x y = Ec.rootP x y := by dsimp only [vops]
theorem one_toR : (toF 1 : Fin Ec.P) = 1 := rfl
/-- the even x of a y, and is there one? -/
def xxP (d y : Fin Ec.P) : Fin Ec.P × Bool := Ec.rootP (y * y - 1) (d * (y * y) + 1)
theorem v_xx (d y : Fin Ec.P) : vops.xx d y = xxP d y := by
  unfold VOps.xx xxP
  simp only [v_mul, v_add, v_sub, v_root, one_toR]
def raddP (d : Fin Ec.P) (p q : Ec.R3) : Ec.R3 :=
  let z := p.z * q.z
  let xw := p.x * q.y
  let zy := q.x * p.y
  let yw := p.y * q.y
  let xz := p.x * q.x
  let zz := z * z
  let d := d * (xw * zy)
  let up := zz + d
  let down := zz - d
  ⟨(xw + zy) * z * down, (yw + xz) * z * up, up * down⟩
theorem raddP_D (p q : Ec.R3) : raddP Ec.D p q = R3.add p q := rfl
theorem v_radd (d : Fin Ec.P) (p q : Ec.R3) : vops.radd d p q = raddP d p q := by
  unfold VOps.radd raddP
  simp only [v_mul, v_add, v_sub]
theorem lt1 : 1 < Ec.P := by decide
theorem cxx_ok : SpecOK Try.prog 50 (spec2 dCv dR fun c y => (tupR (xxP c.d y).1 (xxP c.d y).2, [])) :=
  spec2_ok Try.func50 (by decide +kernel) (by kernel_rfl) T23_ok mixed (by kernel_rfl) fun c y _ => by
    have h := cx_x vops rops c y
    rw [v_xx] at h
    exact ⟨_, _, _, h, ⟨lt1, lt1, w1, trivial⟩, tupR_val _ _, tupR_val _ _⟩
theorem nought_val : noughtP.val? = some (r3V R3.nought) := by kernel_rfl
theorem cnought_ok : SpecOK Try.prog 53 (spec0 (.pv (r3P R3.nought))) :=
  spec0_ok (n := 300) Try.func53 (by decide +kernel) (by kernel_rfl) T23_ok mixed ⟨_, _, _, cn_x vops rops, ⟨w1, w1, trivial⟩, nought_val, r3P_val _⟩
theorem cadd_ok : SpecOK Try.prog 28 (spec3 dCv dR3 dR3 fun c a b => (.pv (r3P (raddP c.d a b)), [])) :=
  spec3_ok Try.func28 (by decide +kernel) (by kernel_rfl) T23_ok mixed (by kernel_rfl) fun c a b _ => by
    have h := ca_x vops rops c a b
    rw [v_radd] at h
    exact ⟨_, _, _, h, trivial, r3P_val _, r3P_val _⟩
theorem cneg_ok : SpecOK Try.prog 30 (spec1 dR3 fun a => (.pv (r3P (R3.neg a)), [])) :=
  spec1_ok Try.func30 (by decide +kernel) (by kernel_rfl) T23_ok mixed (by kernel_rfl) fun a _ => by
    have h := cg_x vops rops a
    rw [v_neg] at h
    exact ⟨_, _, _, h, trivial, r3P_val _, r3P_val _⟩
def flatR (a : Ec.R3) : Fin Ec.P × Fin Ec.P := (a.x * Ec.inv a.z, a.y * Ec.inv a.z)
theorem cflat_ok : SpecOK Try.prog 25 (spec1 dR3 fun a => (.tup [nmP (flatR a).1, nmP (flatR a).2], [])) :=
  spec1_ok Try.func25 (by decide +kernel) (by kernel_rfl) T23_ok mixed (by kernel_rfl) fun a _ => by
    have h := cf_x vops rops a
    rw [v_mul, v_mul, v_inv] at h
    exact ⟨_, _, _, h, trivial, rfl, rfl⟩
theorem csame_ok : SpecOK Try.prog 31 (spec2 dR3 dR3 fun a b => (.pv (bo (R3.same a b)), [])) :=
  spec2_ok Try.func31 (by decide +kernel) (by kernel_rfl) T23_ok mixed (by kernel_rfl) fun a b _ => by
    have h := cs_x vops rops a b
    simp only [v_mul, eqV_is] at h
    unfold R3.same
    generalize decide (a.x * b.z = b.x * a.z) = c1 at *
    generalize decide (a.y * b.z = b.y * a.z) = c2 at *
    cases c1 with
    | true => exact ⟨_, _, _, h, trivial, rfl, rfl⟩
    | false => exact ⟨_, _, _, h, trivial, rfl, rfl⟩

/-- the same, and points, with nothing known of them -/
structure COps extends VOps where
  cx : Fin Ec.P → Fin Ec.P → Fin Ec.P × Bool
  cadd : Fin Ec.P → Ec.R3 → Ec.R3 → Ec.R3
  cneg : Ec.R3 → Ec.R3
  cflat : Ec.R3 → Fin Ec.P × Fin Ec.P
  csame : Ec.R3 → Ec.R3 → Bool
  cnil : Ec.R3
def cops : COps where
  toVOps := vops
  cx := xxP
  cadd := raddP
  cneg := R3.neg
  cflat := flatR
  csame := R3.same
  cnil := R3.nought
def T24 (q : COps) (r : ROps) : List (FuncId × FnSpec) :=
  (50, spec2 dCv dR fun c y => (tupR (q.cx c.d y).1 (q.cx c.d y).2, [])) ::
  (53, spec0 (.pv (r3P q.cnil))) ::
  (28, spec3 dCv dR3 dR3 fun c a b => (.pv (r3P (q.cadd c.d a b)), [])) ::
  (30, spec1 dR3 fun a => (.pv (r3P (q.cneg a)), [])) ::
  (25, spec1 dR3 fun a => (.tup [nmP (q.cflat a).1, nmP (q.cflat a).2], [])) ::
  (31, spec2 dR3 dR3 fun a b => (.pv (bo (q.csame a b)), [])) :: T23 q.toVOps r
theorem T24_ok : TableOK Try.prog (lookT (T24 cops rops)) :=
  tableOK_cons cxx_ok (tableOK_cons cnought_ok (tableOK_cons cadd_ok (tableOK_cons cneg_ok (tableOK_cons cflat_ok (tableOK_cons csame_ok T23_ok)))))
end Go.Proofs.Ytahkpabndfaoiaa

/- The reference's points: the curve, bytes, reading. -/
namespace Go.Proofs.Ytahkpabndfaoiaa
open Eng Go Go.RowKit Go.Proofs Ec

def zOb : Prop := numI 16 zeroL < Ec.P ∧ ∀ a ∈ zeroL, 0 ≤ a ∧ a < 65536
def lowR (n : Nat) : List Int := (List.range 31).map (dg 8 n) ++ [(dg 8 n 31).tmod 128]
def oddB (n : Nat) : Bool := IntKind.wrap .u8 ((dg 8 n 31).tdiv 128) == 1
def lastB (x y : Nat) : Int := IntKind.wrap .u8 (dg 8 y 31 + IntKind.wrap .u8 (IntKind.wrap .u8 ((dg 16 x 0).tmod 2) * 128))
section
variable (q : COps) (r : ROps)
def COps.bd : Fin Ec.P := q.neg (q.mul (toF 121665) (q.inv (toF 121666)))
def COps.by : Fin Ec.P := q.mul (toF 4) (q.inv (toF 5))
theorem cb_x : callX Try.prog (lookT (T24 q r)) 300 Try.f17 [] =
    some (.pv (.agg [.nm q.bd, .nm (q.cx q.bd q.by).1, .nm q.by, .dig .u64 16 1 16]), [Fw.W 1, zOb, zOb, zOb, Fw.W 4, Fw.W 5, 5 < Ec.P, 4 < Ec.P, Fw.W 121665, Fw.W 121666, 121666 < Ec.P, 121665 < Ec.P]) := by kernel_rfl
theorem cy_x (p : Ec.R3) : callX Try.prog (lookT (T24 q r)) 300 Try.f20 [r3P p] =
    some (.pv (.agg ((List.range 31).map (fun i => Cell.dg1 .u8 8 (q.cflat p).2.val i) ++ [.val (.int .u8 (lastB (q.cflat p).1.val (q.cflat p).2.val))])), []) := by kernel_rfl
def ofY (n : Nat) : Nat := numI 8 (lowR n)
def ofB (n : Nat) : Prop := ∀ a ∈ lowR n, 0 ≤ a ∧ a < 256
def ofR (x : Fin Ec.P) (n : Nat) : SV := .tup [.agg [.nm x, .dig .u64 16 (ofY n) 16, .dig .u64 16 1 16], bo true]
def ofN (q : COps) : SV := .tup [r3P q.cnil, bo false]
def ofE (q : COps) (x : Fin Ec.P) (n : Nat) : Option (SV × List Prop) := cond (oddB n) (some (ofR (q.neg x) n, [Fw.W 1, ofY n < Ec.P, ofB n])) (some (ofR x n, [Fw.W 1, ofY n < Ec.P, ofB n]))
theorem co_x (c : Cv) (n : Nat) : callX Try.prog (lookT (T24 q r)) 300 Try.f24 [cvP c, keyP n] =
    cond (!r.less (ofY n) r.prime) (some (ofN q, [ofB n])) (cond (!(q.cx c.d (toF (ofY n))).2) (some (ofN q, [ofY n < Ec.P, ofB n]))
      (cond (oddB n) (cond (isZ (q.cx c.d (toF (ofY n))).1) (some (ofN q, [ofY n < Ec.P, ofB n])) (ofE q (q.cx c.d (toF (ofY n))).1 n)) (ofE q (q.cx c.d (toF (ofY n))).1 n))) := by kernel_rfl
end
end Go.Proofs.Ytahkpabndfaoiaa

/- The reference's points: what the curve, bytes, reading come to. -/
namespace Go.Proofs.Ytahkpabndfaoiaa
open Eng Go Go.RowKit Go.Proofs Ec

/-! the curve -/
theorem toF_n1 : (toF 121665 : Fin Ec.P) = 121665 := rfl
theorem toF_n2 : (toF 121666 : Fin Ec.P) = 121666 := rfl
theorem toF_n4 : (toF 4 : Fin Ec.P) = 4 := rfl
theorem toF_n5 : (toF 5 : Fin Ec.P) = 5 := rfl
theorem c_mul (x y : Fin Ec.P) : cops.mul x y = x * y := rfl
theorem c_neg (x : Fin Ec.P) : cops.neg x = -x := rfl
theorem c_inv (x : Fin Ec.P) : cops.inv x = Ec.inv x := rfl
theorem c_cx (d y : Fin Ec.P) : cops.cx d y = xxP d y := by dsimp only [cops]
theorem n2_ne : (121666 : Fin Ec.P) ≠ 0 := by decide +kernel
theorem D_eq : Ec.D * 121666 + 121665 = 0 := by decide +kernel
theorem d_gen {n : Nat} [NeZero n] {d a b i : Fin n} (h : d * b + a = 0) (hi : b * i = 1) : -(a * i) = d := by grind
theorem bd_is : cops.bd = Ec.D := by
  unfold COps.bd
  rw [c_neg, c_mul, c_inv, toF_n1, toF_n2]
  exact d_gen D_eq (fldP.mul_inv n2_ne)
theorem by_gen {n : Nat} [NeZero n] {a b c i : Fin n} (h : a = b * c) (hi : c * i = 1) : a * i = b := by grind
theorem by_is : cops.by = Ec.BY := by
  have h : aops.mul (aops.small 4) (aops.inv (aops.small 5)) = Ec.BY := base_y
  rw [asmall, asmall, four_toF, five_toF, amul, ainv] at h
  unfold COps.by
  rw [c_mul, c_inv, toF_n4, toF_n5]
  exact h
theorem bx_is : xxP Ec.D Ec.BY = (Ec.BX, true) := by
  unfold xxP
  rw [rootP_of bv_ne b_sq, b_even]
def cvB : Cv := ⟨Ec.D, ⟨Ec.BX, Ec.BY, 1⟩⟩
theorem cv_one (a b c : Fin Ec.P) : (PV.agg [.nm a, .nm b, .nm c, .dig .u64 16 1 16]).val? = some (cvV ⟨a, ⟨b, c, 1⟩⟩) := rfl
theorem zOb_ok : zOb := by
  unfold zOb
  decide
theorem begin_ok : SpecOK Try.prog 17 (spec0 (.pv (cvP cvB))) :=
  spec0_ok (n := 300) Try.func17 (by decide +kernel) (by kernel_rfl) T24_ok mixed (by
    have h := cb_x cops rops
    rw [bd_is, by_is, c_cx, bx_is] at h
    exact ⟨_, _, _, h, ⟨w1, zOb_ok, zOb_ok, zOb_ok, w4, w5, by decide, by decide, Fw.W_lit (by decide) (by decide), Fw.W_lit (by decide) (by decide), by decide, by decide, trivial⟩, cv_one _ _ _, cvP_val _⟩)

/-! bytes -/
theorem wrap8 {x : Int} (h : 0 ≤ x) (h' : x < 256) : IntKind.wrap .u8 x = x := by
  show x.emod 256 = x
  exact Int.emod_eq_of_lt h h'
theorem top_dg {y : Nat} (h : y < 2 ^ 255) : ∃ m : Nat, m < 128 ∧ dg 8 y 31 = (m : Int) := by
  refine ⟨y / 2 ^ 248, Nat.div_lt_of_lt_mul (by rw [show 2 ^ 248 * 128 = 2 ^ 255 by decide]; exact h), ?_⟩
  have h0 : y / 2 ^ 248 < 128 := Nat.div_lt_of_lt_mul (by rw [show 2 ^ 248 * 128 = 2 ^ 255 by decide]; exact h)
  unfold dg
  show ((y / 2 ^ 248 % 256 : Nat) : Int) = _
  rw [Nat.mod_eq_of_lt (by omega)]
theorem oddR_nat (x : Nat) : (dg 16 x 0).tmod 2 = ((x % 2 : Nat) : Int) := by
  rw [dg_nat]
  rw [Int.tmod_eq_emod_of_nonneg (Int.natCast_nonneg _)]
  have : x / 2 ^ (16 * 0) % 2 ^ 16 % 2 = x % 2 := by
    rw [Nat.mul_zero, Nat.pow_zero, Nat.div_one]
    omega
  omega
theorem last_odd {x y : Nat} (hy : y < 2 ^ 255) (hx : x % 2 = 1) : lastB x y = or8 (dg 8 y 31) 128 := by
  obtain ⟨m, hm, he⟩ := top_dg hy
  unfold lastB
  rw [oddR_nat, hx, he]
  have e1 : IntKind.wrap .u8 ((1 : Nat) : Int) = 1 := rfl
  rw [e1, wrap8 (x := 1 * 128) (by decide) (by decide), wrap8 (by omega) (by omega)]
  have := or8_spec m hm
  show _ = IntKind.wrap .u8 _
  rw [this]
  omega
theorem last_even {x y : Nat} (hy : y < 2 ^ 255) (hx : x % 2 = 0) : lastB x y = dg 8 y 31 := by
  obtain ⟨m, hm, he⟩ := top_dg hy
  unfold lastB
  rw [oddR_nat, hx, he]
  have e1 : IntKind.wrap .u8 ((0 : Nat) : Int) = 0 := rfl
  rw [e1, wrap8 (x := 0 * 128) (by decide) (by decide), wrap8 (by omega) (by omega)]
  omega
theorem rtb_val (y : Nat) (z : Int) : (PV.agg ((List.range 31).map (fun i => Cell.dg1 .u8 8 y i) ++ [.val (.int .u8 z)])).val? = some (intsV .u8 ((List.range 31).map (dg 8 y) ++ [z])) := by kernel_rfl
theorem bytes_split (y : Nat) : (List.range 31).map (dg 8 y) ++ [dg 8 y 31] = digI 8 y 32 := rfl
theorem rbytes_val {x y : Fin Ec.P} : (SV.pv (.agg ((List.range 31).map (fun i => Cell.dg1 .u8 8 y.val i) ++ [.val (.int .u8 (lastB x.val y.val))]))).val? = some (keyV (xyNat x y)) := by
  have hy : y.val < 2 ^ 255 := Nat.lt_trans y.isLt P_lt255
  have h := rtb_val y.val (lastB x.val y.val)
  rcases Nat.mod_two_eq_zero_or_one x.val with hx | hx
  · rw [last_even hy hx, bytes_split] at h
    rw [xy_even x y (by rw [hx]; rfl), last_even hy hx]
    exact h
  · rw [last_odd hy hx, top_bytes _ hy] at h
    rw [xy_odd x y (by rw [hx]; rfl), last_odd hy hx]
    exact h
theorem rbNum_ex : ∃ f : Ec.R3 → Nat, ∀ p, f p = xyNat (flatR p).1 (flatR p).2 := ⟨_, fun _ => rfl⟩
noncomputable def rbNum : Ec.R3 → Nat := Classical.choose rbNum_ex
theorem rbNum_eq (p : Ec.R3) : rbNum p = xyNat (flatR p).1 (flatR p).2 := Classical.choose_spec rbNum_ex p
theorem c_flat (p : Ec.R3) : cops.cflat p = flatR p := rfl
theorem cbytes_ok : SpecOK Try.prog 20 (spec1 dR3 fun p => (.pv (keyP (rbNum p)), [])) :=
  spec1_ok Try.func20 (by decide +kernel) (by kernel_rfl) T24_ok mixed (by kernel_rfl) fun p _ => by
    have h := cy_x cops rops p
    rw [c_flat] at h
    have hv := rbytes_val (x := (flatR p).1) (y := (flatR p).2)
    rw [← rbNum_eq] at hv
    exact ⟨_, _, _, h, trivial, hv, keyP_val _⟩

/-! reading -/
theorem ofY_is (n : Nat) : ofY n = n % 2 ^ 255 := by
  unfold ofY lowR
  rw [numI_app]
  have h1 : numI 8 ((List.range 31).map (dg 8 n)) = n % 2 ^ 248 := numI_digI 8 31 n
  have h2 : (dg 8 n 31).tmod 128 = ((n / 2 ^ 248 % 256 % 128 : Nat) : Int) := by
    show ((n / 2 ^ 248 % 256 : Nat) : Int).tmod 128 = _
    rw [Int.tmod_eq_emod_of_nonneg (Int.natCast_nonneg _)]
    rfl
  rw [h1, h2]
  simp only [numI, Int.toNat_natCast, List.length_map, List.length_range, Nat.mul_zero, Nat.add_zero]
  rw [Nat.mod_mod_of_dvd _ (by decide : 128 ∣ 256), show (2 : Nat) ^ 255 = 2 ^ 248 * 128 by decide, Nat.mod_mul]
theorem ofB_ok (n : Nat) : ofB n := by
  intro a ha
  unfold lowR at ha
  rcases List.mem_append.1 ha with h | h
  · obtain ⟨i, _, rfl⟩ := List.mem_map.1 h
    exact dg_nn 8 _ _
  · have h2 : (dg 8 n 31).tmod 128 = ((n / 2 ^ 248 % 256 % 128 : Nat) : Int) := by
      show ((n / 2 ^ 248 % 256 : Nat) : Int).tmod 128 = _
      rw [Int.tmod_eq_emod_of_nonneg (Int.natCast_nonneg _)]
      rfl
    rw [List.mem_singleton.1 h, h2]
    have : n / 2 ^ 248 % 256 % 128 < 128 := Nat.mod_lt _ (by decide)
    omega
theorem oddB_is (n : Nat) : oddB n = (n / 2 ^ 255 % 2 == 1) := by
  unfold oddB
  have e1 : (dg 8 n 31).tdiv 128 = ((n / 2 ^ 248 % 256 / 128 : Nat) : Int) := by
    show ((n / 2 ^ 248 % 256 : Nat) : Int).tdiv 128 = _
    rw [Int.tdiv_eq_ediv_of_nonneg (Int.natCast_nonneg _)]
    rfl
  have h0 : n / 2 ^ 248 % 256 < 256 := Nat.mod_lt _ (by decide)
  rw [e1, wrap8 (by omega) (by omega)]
  have e2 : n / 2 ^ 255 = n / 2 ^ 248 / 128 := by rw [Nat.div_div_eq_div_mul]
  rw [e2, Bool.eq_iff_iff]
  simp only [beq_iff_eq]
  omega
/-- the point that a number's bytes say -/
def rxOf (d : Fin Ec.P) (n : Nat) : Fin Ec.P := cond (n / 2 ^ 255 % 2 == 1) (-(xxP d (toF (n % 2 ^ 255))).1) (xxP d (toF (n % 2 ^ 255))).1
def rOf (d : Fin Ec.P) (n : Nat) : Option Ec.R3 :=
  cond (!decide (n % 2 ^ 255 < Ec.P)) none (cond (!(xxP d (toF (n % 2 ^ 255))).2) none (cond (n / 2 ^ 255 % 2 == 1) (cond (decide ((xxP d (toF (n % 2 ^ 255))).1 = 0)) none (some ⟨rxOf d n, toF (n % 2 ^ 255), 1⟩)) (some ⟨rxOf d n, toF (n % 2 ^ 255), 1⟩)))
def optR (o : Option Ec.R3) : List PV := [r3P (o.getD R3.nought), bo o.isSome]
theorem optR_val (o : Option Ec.R3) : (SV.tup (optR o)).val? = some (.tuple #[r3V (o.getD R3.nought), .bool o.isSome]) := rfl
theorem ofR_val {x : Fin Ec.P} {n : Nat} (h : ofY n < Ec.P) : (ofR x n).val? = some (.tuple #[r3V ⟨x, toF (ofY n), 1⟩, .bool true]) := by
  have e : (PV.agg [.nm x, .dig .u64 16 (ofY n) 16, .dig .u64 16 1 16]).val? = some (.agg (nmL x ++ (digI 16 (ofY n) 16).map (Value.int .u64) ++ nmL 1).toArray) := rfl
  unfold ofR
  simp only [SV.val?, pvVals, e]
  unfold r3V
  have : nmL (toF (ofY n)) = (digI 16 (ofY n) 16).map (Value.int .u64) := by unfold nmL; rw [toF_dig h]
  rw [this]
  rfl
theorem of_gen {z : Option (SV × List Prop)} {A B : Prop} (c1 c2 c3 c4 : Bool) {x nx y : Fin Ec.P} {s t : SV} (hA : c1 = true → A) (hB : B) (hw : Fw.W 1)
    (hs : c1 = true → s.val? = some (.tuple #[r3V ⟨x, y, 1⟩, .bool true])) (ht : c1 = true → t.val? = some (.tuple #[r3V ⟨nx, y, 1⟩, .bool true]))
    (h : z = cond (!c1) (some (.tup (optR none), [B])) (cond (!c2) (some (.tup (optR none), [A, B])) (cond c3 (cond c4 (some (.tup (optR none), [A, B])) (cond c3 (some (t, [Fw.W 1, A, B])) (some (s, [Fw.W 1, A, B])))) (cond c3 (some (t, [Fw.W 1, A, B])) (some (s, [Fw.W 1, A, B])))))) :
    Meets z (.tup (optR (cond (!c1) none (cond (!c2) none (cond c3 (cond c4 none (some ⟨cond c3 nx x, y, 1⟩)) (some ⟨cond c3 nx x, y, 1⟩)))))) := by
  cases c1 with
  | false => exact ⟨_, _, _, h, ⟨hB, trivial⟩, optR_val none, optR_val none⟩
  | true =>
    have hA := hA rfl
    cases c2 with
    | false => exact ⟨_, _, _, h, ⟨hA, hB, trivial⟩, optR_val none, optR_val none⟩
    | true =>
      cases c3 with
      | true =>
        cases c4 with
        | true => exact ⟨_, _, _, h, ⟨hA, hB, trivial⟩, optR_val none, optR_val none⟩
        | false => exact ⟨_, _, _, h, ⟨hw, hA, hB, trivial⟩, ht rfl, optR_val (some ⟨nx, y, 1⟩)⟩
      | false => exact ⟨_, _, _, h, ⟨hw, hA, hB, trivial⟩, hs rfl, optR_val (some ⟨x, y, 1⟩)⟩
theorem lessP {y m : Nat} (hy : y < m) (hp : Ec.P < m) : decide (y % m < Ec.P % m) = decide (y < Ec.P) := lt_mod hy hp
theorem less_is (n : Nat) : rops.less (ofY n) rops.prime = decide (ofY n < Ec.P) := by
  rw [rops_less, rops_prime]
  have h : ofY n < 2 ^ 256 := by
    rw [ofY_is]
    exact Nat.lt_trans (Nat.mod_lt _ (Nat.two_pow_pos 255)) (by decide)
  exact lessP h (by decide)
theorem ofN_is : ofN cops = .tup (optR none) := rfl
theorem cof_m (c : Cv) (n : Nat) : Meets (callX Try.prog (lookT (T24 cops rops)) 300 Try.f24 [cvP c, keyP n]) (.tup (optR (rOf c.d n))) := by
  have h := co_x cops rops c n
  rw [less_is, c_cx, isZ_is, ofN_is] at h
  unfold ofE at h
  rw [c_neg] at h
  have hs : ∀ x, decide (ofY n < Ec.P) = true → (ofR x n).val? = some (.tuple #[r3V ⟨x, toF (ofY n), 1⟩, .bool true]) := fun x hy => ofR_val (of_decide_eq_true hy)
  have := of_gen (decide (ofY n < Ec.P)) (xxP c.d (toF (ofY n))).2 (oddB n) (decide ((xxP c.d (toF (ofY n))).1 = 0)) of_decide_eq_true (ofB_ok n) w1 (hs _) (hs _) h
  rw [oddB_is, ofY_is] at this
  unfold rOf rxOf
  exact this
theorem cof_ok : SpecOK Try.prog 24 (spec2 dCv dK fun c n => (.tup (optR (rOf c.d n)), [])) :=
  spec2_ok Try.func24 (by decide +kernel) (by kernel_rfl) T24_ok mixed (by kernel_rfl) fun c n _ => cof_m c n
end Go.Proofs.Ytahkpabndfaoiaa
