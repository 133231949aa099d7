/-
What is known of the field's functions: powers.
-/
import Derived.Test.YtahkpabndfaoiaaF6
namespace Eng
open Go

def bit8 (e j s : Nat) : Bool := IntKind.wrap .u8 ((BitVec.ofInt 8 ((dg 8 e j).fdiv (2 ^ (min ((s : Nat) : Int).toNat 8))) &&& BitVec.ofInt 8 1).toNat) == 1

theorem bit8_spec (e j s : Nat) (h : s < 8) : bit8 e j s = (e / 2 ^ (8 * j + s) % 2 == 1) := by
  unfold bit8
  rw [Int.toNat_natCast, Nat.min_eq_left (by omega)]
  have e1 : (dg 8 e j).fdiv (2 ^ s) = ((e / 2 ^ (8 * j) % 2 ^ 8 / 2 ^ s : Nat) : Int) := by
    unfold dg
    rw [Int.fdiv_eq_ediv_of_nonneg _ (by exact Int.pow_nonneg (by decide)), ← Fw.pow_cast, Int.natCast_ediv]
  rw [e1]
  have h8 : 2 ^ 8 = 2 ^ s * 2 ^ (8 - s) := by rw [← Nat.pow_add]; congr 1; omega
  have e2 : e / 2 ^ (8 * j) % 2 ^ 8 / 2 ^ s % 2 = e / 2 ^ (8 * j + s) % 2 := by
    rw [h8, Nat.mod_mul_right_div_self, Nat.mod_mod_of_dvd _ ⟨2 ^ (7 - s), by rw [← Nat.pow_succ']; congr 1; omega⟩, Nat.div_div_eq_div_mul, ← Nat.pow_add]
  generalize hy : e / 2 ^ (8 * j) % 2 ^ 8 / 2 ^ s = y at *
  have hy8 : y < 256 := by
    rw [← hy]
    exact Nat.lt_of_le_of_lt (Nat.div_le_self _ _) (Nat.mod_lt _ (by decide))
  have e3 : (BitVec.ofInt 8 (y : Int) &&& BitVec.ofInt 8 1).toNat = y % 2 := by
    rw [BitVec.toNat_and]
    have : (BitVec.ofInt 8 (y : Int)).toNat = y := by
      rw [BitVec.ofInt_natCast, BitVec.toNat_ofNat, Nat.mod_eq_of_lt hy8]
    rw [this]
    exact Nat.and_one_is_mod y
  rw [e3, e2]
  have : e / 2 ^ (8 * j + s) % 2 = 0 ∨ e / 2 ^ (8 * j + s) % 2 = 1 := by omega
  rcases this with h | h <;> rw [h] <;> decide

/-- the bit that a round reads, the highest first -/
def bitAt (e i : Nat) : Bool := bit8 e (31 - i / 8) (7 - i % 8)
theorem bitAt_spec (e i : Nat) (h : i < 256) : bitAt e i = (e / 2 ^ (255 - i) % 2 == 1) := by
  unfold bitAt
  rw [bit8_spec _ _ _ (by omega)]
  have : 8 * (31 - i / 8) + (7 - i % 8) = 255 - i := by omega
  rw [this]

/-- what was read of a number so far -/
def top (e i : Nat) : Nat := e % 2 ^ 256 / 2 ^ (256 - i)
theorem top_zero (e : Nat) : top e 0 = 0 := Nat.div_eq_of_lt (Nat.mod_lt _ (by decide))
theorem top_all (e : Nat) : top e 256 = e % 2 ^ 256 := Nat.div_one _
theorem top_succ (e i : Nat) (h : i < 256) : top e (i + 1) = 2 * top e i + (bitAt e i).toNat := by
  rw [bitAt_spec e i h]
  unfold top
  have e1 : 2 ^ (256 - i) = 2 ^ (256 - (i + 1)) * 2 := by rw [← Nat.pow_succ]; congr 1; omega
  have e2 : e / 2 ^ (255 - i) % 2 = e % 2 ^ 256 / 2 ^ (256 - (i + 1)) % 2 := by
    have h2 : 2 ^ 256 = 2 ^ (255 - i) * 2 ^ (i + 1) := by rw [← Nat.pow_add]; congr 1; omega
    have h3 : 256 - (i + 1) = 255 - i := by omega
    rw [h3, h2, Nat.mod_mul_right_div_self, Nat.mod_mod_of_dvd _ ⟨2 ^ i, by rw [← Nat.pow_succ']⟩]
  rw [e2, e1, ← Nat.div_div_eq_div_mul]
  generalize e % 2 ^ 256 / 2 ^ (256 - (i + 1)) = y
  have : y % 2 = 0 ∨ y % 2 = 1 := by omega
  rcases this with h | h <;> rw [h] <;> simp <;> omega

theorem pow_plus {n : Nat} [NeZero n] (x : Fin n) (a b : Nat) : x ^ a * x ^ b = x ^ (a + b) := by
  refine Fin.ext ?_
  rw [Fin.val_mul, Ec.val_pow, Ec.val_pow, Ec.val_pow, ← Nat.mul_mod, ← Nat.pow_add]
theorem pow_one {n : Nat} [NeZero n] (x : Fin n) : x ^ 1 = x := by
  refine Fin.ext ?_
  rw [Ec.val_pow, Nat.pow_one, Nat.mod_eq_of_lt x.isLt]
theorem pow_nil {n : Nat} [NeZero n] (x : Fin n) : x ^ 0 = 1 := by grind
theorem pow_dbl {n : Nat} [NeZero n] (x : Fin n) (k : Nat) : x ^ k * x ^ k = x ^ (2 * k + false.toNat) := by
  rw [pow_plus]
  congr 1
  simp; omega
theorem pow_dbl1 {n : Nat} [NeZero n] (x : Fin n) (k : Nat) : x ^ k * x ^ k * x = x ^ (2 * k + true.toNat) := by
  have h := pow_plus x (k + k) 1
  rw [pow_one] at h
  rw [pow_plus, h]
  congr 1
  simp; omega

end Eng
namespace Go.Proofs.Ytahkpabndfaoiaa
open Eng Go Go.RowKit Go.Proofs

def powKeep : List Nat := [2, 3, 4, 5, 8]
noncomputable def powS (o : FOps) (x : Fin Ec.P) (e i : Nat) (r : Fin Ec.P) : St :=
  setC (setS (first0 Try.prog (lookT (T1 o)) Try.f68 powKeep 300 [feP x, keyP e]) 8 (.pv (iv (i : Int)))) 5 [.fe r]
theorem pow_first (o : FOps) (x : Fin Ec.P) (e : Nat) : first Try.prog (lookT (T1 o)) Try.f68 powKeep 300 [feP x, keyP e] = some (atHead Try.f68 (powS o x e 0 (o.small 1)), [Fw.W 1]) := by kernel_rfl
theorem pow_rounds (o : FOps) (x r : Fin Ec.P) (e : Nat) : (List.range 256).map (fun i => round Try.prog (lookT (T1 o)) Try.f68 powKeep 300 (powS o x e i r)) =
    (List.range 256).map fun i => cond (bitAt e i) (some (again Try.f68 (powS o x e (i + 1) (o.mul (o.mul r r) x)), [])) (some (again Try.f68 (powS o x e (i + 1) (o.mul r r)), [])) := by kernel_rfl
theorem pow_last (o : FOps) (x r : Fin Ec.P) (e : Nat) : round Try.prog (lookT (T1 o)) Try.f68 powKeep 300 (powS o x e 256 r) = some (.out (.pv (feP r)), []) := by kernel_rfl

end Go.Proofs.Ytahkpabndfaoiaa
