/-
The reference's products modulo the prime: how its function goes.
The reference's products modulo the prime: what its function comes to.
-/
import Derived.Test.YtahkpabndfaoiaaUI
import Derived.Test.YtahkpabndfaoiaaUD

/- The reference's products modulo the prime: how its function goes. -/
namespace Go.Proofs.Ytahkpabndfaoiaa
open Eng Go Go.RowKit Go.Proofs

noncomputable abbrev rmF : Func := Try.f47
def rmTm (i : Nat) (s7 : SV) : List SV := [.any, .any, ptv 2, ptv 3, ptv 4, .pv (.one (.sli 5 0 0 31 none true)), .pv (iv (i : Int)), s7] ++ List.replicate 31 .any
def rmHp (x y : Fin Ec.P) (d : List Int) : Heap := [[], [], [⟨[.nm x], 32, .var⟩], [⟨[.nm y], 32, .var⟩], [⟨zero16, 32, .var⟩], [⟨[.arr .u64 d], 24, .sl⟩]] ++ List.replicate 33 []
def rmS (x y : Fin Ec.P) (d : List Int) (i : Nat) : St := ⟨rmTm i .any, rmHp x y d⟩
def rmS2 (x y : Fin Ec.P) (d : List Int) (i k : Nat) : St := ⟨rmTm i (.pv (iv (k : Int))), rmHp x y d⟩
def rmTd : Td := ⟨[2, 3, 4, 5, 6], [5], []⟩
def rmTd2 : Td := ⟨[2, 3, 4, 5, 6, 7], [5], []⟩
def rmO (j : Nat) (d : List Int) : List Prop := [idxOk (j : Int) 31 = true, Nat.blt j d.length = true, idxOk (j : Int) 31 = true, Nat.blt j d.length = true]
section
variable (o : MOps) (r : ROps) (x y : Fin Ec.P) (d : List Int)
theorem rm_first : runS Try.prog (mdT o r) rmF 1 rmTd 300 [.code (bodyOf rmF)] (Eng.start rmF.ntmps [nmP x, nmP y]) =
    some (.at (.code (.loop (hd rmF).1) :: (hd rmF).2) (rmS x y (List.replicate 31 0) 0), []) := by kernel_rfl
theorem rm_outer : (List.range 16).map (fun i => runS Try.prog (mdT o r) rmF 2 rmTd2 300 (.code (hd rmF).1 :: .lp (hd rmF).1 :: (hd rmF).2) (rmS x y d i)) =
    (List.range 16).map fun i => some (.at (.code (.loop (hd2 rmF).1) :: (hd2 rmF).2) (rmS2 x y d i 0), []) := by kernel_rfl
theorem rm_inner0 : (List.range 16).map (fun k => runS Try.prog (mdT o r) rmF 2 rmTd2 300 (.code (hd2 rmF).1 :: .lp (hd2 rmF).1 :: (hd2 rmF).2) (rmS2 x y d 0 k)) =
    (List.range 16).map fun k => some (.at (.lp (hd2 rmF).1 :: (hd2 rmF).2) (rmS2 x y (maK x.val y.val 0 k d) 0 (k + 1)), rmO (0 + k) d) := by kernel_rfl
theorem rm_inner1 : (List.range 16).map (fun k => runS Try.prog (mdT o r) rmF 2 rmTd2 300 (.code (hd2 rmF).1 :: .lp (hd2 rmF).1 :: (hd2 rmF).2) (rmS2 x y d 1 k)) =
    (List.range 16).map fun k => some (.at (.lp (hd2 rmF).1 :: (hd2 rmF).2) (rmS2 x y (maK x.val y.val 1 k d) 1 (k + 1)), rmO (1 + k) d) := by kernel_rfl
theorem rm_inner2 : (List.range 16).map (fun k => runS Try.prog (mdT o r) rmF 2 rmTd2 300 (.code (hd2 rmF).1 :: .lp (hd2 rmF).1 :: (hd2 rmF).2) (rmS2 x y d 2 k)) =
    (List.range 16).map fun k => some (.at (.lp (hd2 rmF).1 :: (hd2 rmF).2) (rmS2 x y (maK x.val y.val 2 k d) 2 (k + 1)), rmO (2 + k) d) := by kernel_rfl
theorem rm_inner3 : (List.range 16).map (fun k => runS Try.prog (mdT o r) rmF 2 rmTd2 300 (.code (hd2 rmF).1 :: .lp (hd2 rmF).1 :: (hd2 rmF).2) (rmS2 x y d 3 k)) =
    (List.range 16).map fun k => some (.at (.lp (hd2 rmF).1 :: (hd2 rmF).2) (rmS2 x y (maK x.val y.val 3 k d) 3 (k + 1)), rmO (3 + k) d) := by kernel_rfl
theorem rm_inner4 : (List.range 16).map (fun k => runS Try.prog (mdT o r) rmF 2 rmTd2 300 (.code (hd2 rmF).1 :: .lp (hd2 rmF).1 :: (hd2 rmF).2) (rmS2 x y d 4 k)) =
    (List.range 16).map fun k => some (.at (.lp (hd2 rmF).1 :: (hd2 rmF).2) (rmS2 x y (maK x.val y.val 4 k d) 4 (k + 1)), rmO (4 + k) d) := by kernel_rfl
theorem rm_inner5 : (List.range 16).map (fun k => runS Try.prog (mdT o r) rmF 2 rmTd2 300 (.code (hd2 rmF).1 :: .lp (hd2 rmF).1 :: (hd2 rmF).2) (rmS2 x y d 5 k)) =
    (List.range 16).map fun k => some (.at (.lp (hd2 rmF).1 :: (hd2 rmF).2) (rmS2 x y (maK x.val y.val 5 k d) 5 (k + 1)), rmO (5 + k) d) := by kernel_rfl
theorem rm_inner6 : (List.range 16).map (fun k => runS Try.prog (mdT o r) rmF 2 rmTd2 300 (.code (hd2 rmF).1 :: .lp (hd2 rmF).1 :: (hd2 rmF).2) (rmS2 x y d 6 k)) =
    (List.range 16).map fun k => some (.at (.lp (hd2 rmF).1 :: (hd2 rmF).2) (rmS2 x y (maK x.val y.val 6 k d) 6 (k + 1)), rmO (6 + k) d) := by kernel_rfl
theorem rm_inner7 : (List.range 16).map (fun k => runS Try.prog (mdT o r) rmF 2 rmTd2 300 (.code (hd2 rmF).1 :: .lp (hd2 rmF).1 :: (hd2 rmF).2) (rmS2 x y d 7 k)) =
    (List.range 16).map fun k => some (.at (.lp (hd2 rmF).1 :: (hd2 rmF).2) (rmS2 x y (maK x.val y.val 7 k d) 7 (k + 1)), rmO (7 + k) d) := by kernel_rfl
theorem rm_inner8 : (List.range 16).map (fun k => runS Try.prog (mdT o r) rmF 2 rmTd2 300 (.code (hd2 rmF).1 :: .lp (hd2 rmF).1 :: (hd2 rmF).2) (rmS2 x y d 8 k)) =
    (List.range 16).map fun k => some (.at (.lp (hd2 rmF).1 :: (hd2 rmF).2) (rmS2 x y (maK x.val y.val 8 k d) 8 (k + 1)), rmO (8 + k) d) := by kernel_rfl
theorem rm_inner9 : (List.range 16).map (fun k => runS Try.prog (mdT o r) rmF 2 rmTd2 300 (.code (hd2 rmF).1 :: .lp (hd2 rmF).1 :: (hd2 rmF).2) (rmS2 x y d 9 k)) =
    (List.range 16).map fun k => some (.at (.lp (hd2 rmF).1 :: (hd2 rmF).2) (rmS2 x y (maK x.val y.val 9 k d) 9 (k + 1)), rmO (9 + k) d) := by kernel_rfl
theorem rm_inner10 : (List.range 16).map (fun k => runS Try.prog (mdT o r) rmF 2 rmTd2 300 (.code (hd2 rmF).1 :: .lp (hd2 rmF).1 :: (hd2 rmF).2) (rmS2 x y d 10 k)) =
    (List.range 16).map fun k => some (.at (.lp (hd2 rmF).1 :: (hd2 rmF).2) (rmS2 x y (maK x.val y.val 10 k d) 10 (k + 1)), rmO (10 + k) d) := by kernel_rfl
theorem rm_inner11 : (List.range 16).map (fun k => runS Try.prog (mdT o r) rmF 2 rmTd2 300 (.code (hd2 rmF).1 :: .lp (hd2 rmF).1 :: (hd2 rmF).2) (rmS2 x y d 11 k)) =
    (List.range 16).map fun k => some (.at (.lp (hd2 rmF).1 :: (hd2 rmF).2) (rmS2 x y (maK x.val y.val 11 k d) 11 (k + 1)), rmO (11 + k) d) := by kernel_rfl
theorem rm_inner12 : (List.range 16).map (fun k => runS Try.prog (mdT o r) rmF 2 rmTd2 300 (.code (hd2 rmF).1 :: .lp (hd2 rmF).1 :: (hd2 rmF).2) (rmS2 x y d 12 k)) =
    (List.range 16).map fun k => some (.at (.lp (hd2 rmF).1 :: (hd2 rmF).2) (rmS2 x y (maK x.val y.val 12 k d) 12 (k + 1)), rmO (12 + k) d) := by kernel_rfl
theorem rm_inner13 : (List.range 16).map (fun k => runS Try.prog (mdT o r) rmF 2 rmTd2 300 (.code (hd2 rmF).1 :: .lp (hd2 rmF).1 :: (hd2 rmF).2) (rmS2 x y d 13 k)) =
    (List.range 16).map fun k => some (.at (.lp (hd2 rmF).1 :: (hd2 rmF).2) (rmS2 x y (maK x.val y.val 13 k d) 13 (k + 1)), rmO (13 + k) d) := by kernel_rfl
theorem rm_inner14 : (List.range 16).map (fun k => runS Try.prog (mdT o r) rmF 2 rmTd2 300 (.code (hd2 rmF).1 :: .lp (hd2 rmF).1 :: (hd2 rmF).2) (rmS2 x y d 14 k)) =
    (List.range 16).map fun k => some (.at (.lp (hd2 rmF).1 :: (hd2 rmF).2) (rmS2 x y (maK x.val y.val 14 k d) 14 (k + 1)), rmO (14 + k) d) := by kernel_rfl
theorem rm_inner15 : (List.range 16).map (fun k => runS Try.prog (mdT o r) rmF 2 rmTd2 300 (.code (hd2 rmF).1 :: .lp (hd2 rmF).1 :: (hd2 rmF).2) (rmS2 x y d 15 k)) =
    (List.range 16).map fun k => some (.at (.lp (hd2 rmF).1 :: (hd2 rmF).2) (rmS2 x y (maK x.val y.val 15 k d) 15 (k + 1)), rmO (15 + k) d) := by kernel_rfl
theorem rm_inner {i k : Nat} (hi : i < 16) (hk : k < 16) : runS Try.prog (mdT o r) rmF 2 rmTd2 300 (.code (hd2 rmF).1 :: .lp (hd2 rmF).1 :: (hd2 rmF).2) (rmS2 x y d i k) =
    some (.at (.lp (hd2 rmF).1 :: (hd2 rmF).2) (rmS2 x y (maK x.val y.val i k d) i (k + 1)), rmO (i + k) d) := by
  match i, hi with
  | 0, _ => exact map_range_eq (rm_inner0 o r x y d) hk
  | 1, _ => exact map_range_eq (rm_inner1 o r x y d) hk
  | 2, _ => exact map_range_eq (rm_inner2 o r x y d) hk
  | 3, _ => exact map_range_eq (rm_inner3 o r x y d) hk
  | 4, _ => exact map_range_eq (rm_inner4 o r x y d) hk
  | 5, _ => exact map_range_eq (rm_inner5 o r x y d) hk
  | 6, _ => exact map_range_eq (rm_inner6 o r x y d) hk
  | 7, _ => exact map_range_eq (rm_inner7 o r x y d) hk
  | 8, _ => exact map_range_eq (rm_inner8 o r x y d) hk
  | 9, _ => exact map_range_eq (rm_inner9 o r x y d) hk
  | 10, _ => exact map_range_eq (rm_inner10 o r x y d) hk
  | 11, _ => exact map_range_eq (rm_inner11 o r x y d) hk
  | 12, _ => exact map_range_eq (rm_inner12 o r x y d) hk
  | 13, _ => exact map_range_eq (rm_inner13 o r x y d) hk
  | 14, _ => exact map_range_eq (rm_inner14 o r x y d) hk
  | 15, _ => exact map_range_eq (rm_inner15 o r x y d) hk
  | n + 16, h => exact absurd h (by omega)
theorem rm_exit : (List.range 16).map (fun i => runS Try.prog (mdT o r) rmF 1 rmTd 300 (.code (hd2 rmF).1 :: .lp (hd2 rmF).1 :: (hd2 rmF).2) (rmS2 x y d i 16)) =
    (List.range 16).map fun i => some (.at (.lp (hd rmF).1 :: (hd rmF).2) (rmS x y d (i + 1)), []) := by kernel_rfl
theorem rm_end : runS Try.prog (mdT o r) rmF 1 rmTd 300 (.code (hd rmF).1 :: .lp (hd rmF).1 :: (hd rmF).2) (rmS x y d 16) =
    some (.out (.val (.pv (nmP (o.md (o.ca d))))), caPre d ++ ([Nat.beq 31 (widS [.arr .u64 d]) = true] ++ [o.pre (o.ca d), Nat.beq (widS [.arr .u64 (o.ca d)]) (widS [.arr .u64 (o.ca d)]) = true])) := by kernel_rfl
end
end Go.Proofs.Ytahkpabndfaoiaa

/- The reference's products modulo the prime: what its function comes to. -/
namespace Go.Proofs.Ytahkpabndfaoiaa
open Eng Go Go.RowKit Go.Proofs

/-- all of a list's numbers below a bound -/
def Be (d : List Int) (M : Nat) : Prop := d.length = 31 ∧ ∀ j, 0 ≤ d.getD j 0 ∧ d.getD j 0 ≤ (M : Int)
theorem Be.set {d : List Int} {M N : Nat} {j : Nat} {v : Int} (h : Be d M) (hj : j < 31) (h0 : 0 ≤ v) (hv : v ≤ (N : Int)) (hMN : M ≤ N) : Be (d.set j v) N := by
  refine ⟨by simp [h.1], fun i => ?_⟩
  rw [getD_set _ _ _ _ (by rw [h.1]; exact hj)]
  by_cases hi : i = j
  · rw [if_pos hi]; exact ⟨h0, hv⟩
  · rw [if_neg hi]
    have := h.2 i
    omega

theorem rmK_spec {a b i k M : Nat} {d : List Int} (h : Be d M) (hi : i < 16) (hk : k < 16) (hM : M < 2 ^ 50) : Be (maK a b i k d) (M + 2 ^ 32) ∧
    numI 16 (maK a b i k d) = numI 16 d + 2 ^ (16 * (i + k)) * ((a / 2 ^ (16 * i) % 2 ^ 16) * (b / 2 ^ (16 * k) % 2 ^ 16)) := by
  have hj : i + k < d.length := by rw [h.1]; omega
  have h1 := h.2 (i + k)
  have ha : a / 2 ^ (16 * i) % 2 ^ 16 ≤ 65535 := by omega
  have hb : b / 2 ^ (16 * k) % 2 ^ 16 ≤ 65535 := by omega
  have hab : (a / 2 ^ (16 * i) % 2 ^ 16) * (b / 2 ^ (16 * k) % 2 ^ 16) ≤ 65535 * 65535 := Nat.mul_le_mul ha hb
  unfold maK
  rw [dg_nat, dg_nat, ← Int.natCast_mul]
  generalize (a / 2 ^ (16 * i) % 2 ^ 16) * (b / 2 ^ (16 * k) % 2 ^ 16) = p at *
  rw [wu_id (x := (p : Int)) (Int.natCast_nonneg _) (by omega), wu_id (by omega) (by omega)]
  refine ⟨h.set (by omega) (by omega) (by omega) (by omega), ?_⟩
  have hs := numI_set (w := 16) (l := d) (j := i + k) (d.getD (i + k) 0 + (p : Int)) hj
  have e : (d.getD (i + k) 0 + (p : Int)).toNat = (d.getD (i + k) 0).toNat + p := by omega
  have e2 : 2 ^ (16 * (i + k)) * ((d.getD (i + k) 0).toNat + p) = 2 ^ (16 * (i + k)) * (d.getD (i + k) 0).toNat + 2 ^ (16 * (i + k)) * p := Nat.mul_add _ _ _
  rw [e, e2] at hs
  omega
theorem rmI_spec {a b i M : Nat} {d : List Int} (h : Be d M) (hi : i < 16) (hM : M < 2 ^ 49) : ∀ k, k ≤ 16 → Be (maI a b i d k) (M + k * 2 ^ 32) ∧
    numI 16 (maI a b i d k) = numI 16 d + 2 ^ (16 * i) * ((a / 2 ^ (16 * i) % 2 ^ 16) * (b % 2 ^ (16 * k)))
  | 0, _ => by
    simp only [Nat.mul_zero, Nat.pow_zero, Nat.mod_one, Nat.add_zero, Nat.zero_mul]
    exact ⟨h, rfl⟩
  | k + 1, hk => by
    obtain ⟨h1, h2⟩ := rmI_spec (a := a) (b := b) h hi hM k (by omega)
    obtain ⟨h3, h4⟩ := rmK_spec (a := a) (b := b) (k := k) h1 hi (by omega) (by
      have : k * 2 ^ 32 ≤ 16 * 2 ^ 32 := Nat.mul_le_mul_right _ (by omega)
      omega)
    refine ⟨?_, ?_⟩
    · have : M + (k + 1) * 2 ^ 32 = M + k * 2 ^ 32 + 2 ^ 32 := by omega
      rw [this]
      exact h3
    · show numI 16 (maK a b i k (maI a b i d k)) = _
      rw [h4, h2, mod_step 16 b k, show 16 * (i + k) = 16 * i + 16 * k by omega, Nat.pow_add]
      generalize a / 2 ^ (16 * i) % 2 ^ 16 = x
      generalize b / 2 ^ (16 * k) % 2 ^ 16 = y
      generalize 2 ^ (16 * i) = u
      generalize 2 ^ (16 * k) = v
      generalize b % v = z
      rw [Nat.mul_add, Nat.mul_add, Nat.add_assoc]
      congr 2
      simp only [Nat.mul_left_comm, Nat.mul_comm]
def rmD (a b : Nat) : Nat → List Int
  | 0 => List.replicate 31 0
  | i + 1 => maI a b i (rmD a b i) 16
theorem rmD_spec (a b : Nat) : ∀ i, i ≤ 16 → Be (rmD a b i) (i * (16 * 2 ^ 32)) ∧ numI 16 (rmD a b i) = (a % 2 ^ (16 * i)) * (b % 2 ^ 256)
  | 0, _ => by
    refine ⟨⟨rfl, fun j => ?_⟩, ?_⟩
    · simp only [rmD, List.getD, List.getElem?_replicate]
      split <;> simp
    · simp only [rmD, numI_zeros, Nat.mul_zero, Nat.pow_zero, Nat.mod_one, Nat.zero_mul]
  | i + 1, hi => by
    obtain ⟨h1, h2⟩ := rmD_spec a b i (by omega)
    have hM : i * (16 * 2 ^ 32) ≤ 16 * (16 * 2 ^ 32) := Nat.mul_le_mul_right _ (by omega)
    obtain ⟨h5, h6⟩ := rmI_spec (a := a) (b := b) h1 (i := i) (by omega) (by omega) 16 (by omega)
    refine ⟨?_, ?_⟩
    · have : (i + 1) * (16 * 2 ^ 32) = i * (16 * 2 ^ 32) + 16 * 2 ^ 32 := by omega
      rw [this]
      exact h5
    · show numI 16 (maI a b i (rmD a b i) 16) = _
      rw [h6, h2, mod_step 16 a i]
      have e : (2 : Nat) ^ (16 * 16) = 2 ^ 256 := rfl
      rw [e]
      generalize a / 2 ^ (16 * i) % 2 ^ 16 = x
      generalize 2 ^ (16 * i) = u
      generalize b % 2 ^ 256 = v
      generalize a % u = z
      rw [Nat.add_mul, Nat.mul_assoc]
theorem pos_of_pow {Z k : Nat} (h : Z = 2 ^ k) : 0 < Z := by rw [h]; exact Nat.two_pow_pos k
theorem beq_len {d : List Int} {n : Nat} (h : d.length = n) : Nat.beq n (widS [.arr .u64 d]) = true := by subst h; exact Nat.beq_refl _
theorem lenD_31 {N : Nat} {Z : Nat} (hZ : Z = 2 ^ (16 * 31)) (h : N < Z * 65536) : lenD N 31 ≤ 32 ∧ 31 ≤ lenD N 31 ∧ N < 2 ^ (16 * lenD N 31) := by
  have h0 : 0 < Z := pos_of_pow hZ
  unfold lenD
  rw [← hZ]
  have h1 : N / Z < 65536 := Nat.div_lt_of_lt_mul h
  have h2 := cntD_pow 4 (N / Z) (Nat.lt_trans h1 (by decide))
  have h3 : cntD 4 (N / Z) ≤ 1 := by
    rcases Nat.eq_zero_or_pos (N / Z) with h4 | h4
    · rw [h4, cntD_zero]; omega
    · rw [cntD_pos h4, Nat.div_eq_of_lt h1, cntD_zero]; omega
  generalize cntD 4 (N / Z) = k at *
  refine ⟨by omega, by omega, ?_⟩
  rw [show 16 * (31 + k) = 16 * 31 + 16 * k by omega, Nat.pow_add, Nat.pow_mul 2 16 k, show (2 : Nat) ^ 16 = 65536 from rfl, ← hZ]
  have h5 := (Nat.div_lt_iff_lt_mul h0).1 h2
  rw [Nat.mul_comm]
  exact h5
theorem prod_lt {x y p q : Nat} (hx : x < p) (hy : y < p) (h : p * p ≤ q) : x * y < q :=
  Nat.lt_of_lt_of_le (Nat.mul_lt_mul'' hx hy) h
theorem pow_31 (a b : Nat) (h : b = 16 + a) : (2 : Nat) ^ b = 2 ^ a * 65536 := by
  subst h
  rw [Nat.pow_add, Nat.mul_comm]
theorem pow_sq (e b : Nat) (h : b = e + e) : (2 : Nat) ^ e * 2 ^ e ≤ 2 ^ b := by
  subst h
  rw [Nat.pow_add]
  exact Nat.le_refl _
theorem rmL_is (x y : Fin Ec.P) : caPre (rmD x.val y.val 16) = [(∀ a ∈ rmD x.val y.val 16, 0 ≤ a ∧ a < 72057594037927936) ∧ (rmD x.val y.val 16).length ≤ 1000] ∧
    (∀ a ∈ rmD x.val y.val 16, 0 ≤ a ∧ a < 72057594037927936) ∧ (rmD x.val y.val 16).length = 31 ∧ MdB (caL (rmD x.val y.val 16)) ∧ toF (numI 16 (caL (rmD x.val y.val 16))) = x * y := by
  obtain ⟨h1, h2⟩ := rmD_spec x.val y.val 16 (by decide)
  have hn : numI 16 (rmD x.val y.val 16) = x.val * y.val := by
    rw [h2, Nat.mod_eq_of_lt (fin_lt x)]
    have := fin_lt y
    rw [show (16 * 16 : Nat) = 256 from rfl] at this
    rw [Nat.mod_eq_of_lt this]
  have hN := prod_lt (fin_lt x) (fin_lt y) (pow_sq (16 * 16) (16 * 32) rfl)
  rw [pow_31 (16 * 31) (16 * 32) rfl] at hN
  obtain ⟨l1, l2, l3⟩ := lenD_31 rfl hN
  have hall : ∀ a ∈ rmD x.val y.val 16, 0 ≤ a ∧ a < 72057594037927936 := by
    intro a ha
    obtain ⟨j, hj, rfl⟩ := List.mem_iff_getElem.1 ha
    have := h1.2 j
    rw [show (rmD x.val y.val 16).getD j 0 = (rmD x.val y.val 16)[j] by simp [List.getD, List.getElem?_eq_getElem hj]] at this
    omega
  refine ⟨rfl, hall, h1.1, ?_, ?_⟩
  · unfold caL
    rw [hn, h1.1]
    exact ⟨inD50 (InD.dig _ _ _), by rw [digI_length]; omega, by rw [digI_length]; omega⟩
  · unfold caL
    rw [hn, h1.1, numI_digI, Nat.mod_eq_of_lt l3]
    exact Fin.ext (by rw [Fin.val_mul]; rfl)

theorem rm_obs {d : List Int} (h : d.length = 31) {j : Nat} (hj : j < 31) : AllP (rmO j d) := by
  have o1 : idxOk (j : Int) 31 = true := by simp [idxOk]; omega
  have o2 : Nat.blt j d.length = true := by rw [h, Nat.blt_eq]; exact hj
  exact ⟨o1, o2, o1, o2, trivial⟩
theorem maI_length (a b i : Nat) (d : List Int) : ∀ k, (maI a b i d k).length = d.length
  | 0 => rfl
  | k + 1 => by
    show (maK a b i k (maI a b i d k)).length = _
    unfold maK
    rw [List.length_set, maI_length a b i d k]
section
variable (o : MOps) (x y : Fin Ec.P) {R : SRes → Prop}
theorem rm_in {i : Nat} {d : List Int} (hi : i < 16) (hd : d.length = 31) (g : Goes Try.prog (mdT o rops) rmF R (.code (hd2 rmF).1 :: .lp (hd2 rmF).1 :: (hd2 rmF).2) (rmS2 x y (maI x.val y.val i d 16) i 16)) :
    ∀ n k, 16 - k = n → k ≤ 16 → Goes Try.prog (mdT o rops) rmF R (.code (hd2 rmF).1 :: .lp (hd2 rmF).1 :: (hd2 rmF).2) (rmS2 x y (maI x.val y.val i d k) i k) := by
  intro n
  induction n with
  | zero =>
    intro k hn hk
    have : k = 16 := by omega
    subst this
    exact g
  | succ n ih =>
    intro k hn hk
    exact .at 2 rmTd2 300 (rm_inner o rops x y (maI x.val y.val i d k) hi (show k < 16 by omega)) (rm_obs (by rw [maI_length]; exact hd) (by omega)) (.lp (ih (k + 1) (by omega) (by omega)))
theorem rm_out (g : Goes Try.prog (mdT o rops) rmF R (.code (hd rmF).1 :: .lp (hd rmF).1 :: (hd rmF).2) (rmS x y (rmD x.val y.val 16) 16)) :
    ∀ n i, 16 - i = n → i ≤ 16 → Goes Try.prog (mdT o rops) rmF R (.code (hd rmF).1 :: .lp (hd rmF).1 :: (hd rmF).2) (rmS x y (rmD x.val y.val i) i) := by
  intro n
  induction n with
  | zero =>
    intro i hn hi
    have : i = 16 := by omega
    subst this
    exact g
  | succ n ih =>
    intro i hn hi
    have hi' : i < 16 := by omega
    have hl : (rmD x.val y.val i).length = 31 := (rmD_spec x.val y.val i hi).1.1
    refine .at 2 rmTd2 300 (map_range_eq (rm_outer o rops x y (rmD x.val y.val i)) hi') trivial (.loop ?_)
    refine rm_in o x y hi' hl ?_ 16 0 rfl (by decide)
    exact .at 1 rmTd 300 (map_range_eq (rm_exit o rops x y (maI x.val y.val i (rmD x.val y.val i) 16)) hi') trivial (.lp (ih (i + 1) (by omega) (by omega)))
end
theorem rmul_ok : SpecOK Try.prog 47 (spec2 dR dR fun x y => (.pv (nmP (x * y)), [])) :=
  goes2_ok S3_2 mixed Try.func47 (by decide +kernel) (by kernel_rfl) (by kernel_rfl) (fun x y => ⟨_, nmP_val _⟩) fun x y _ => by
    obtain ⟨_, h2, h3, h4, h5⟩ := rmL_is x y
    refine .at 1 rmTd 300 (rm_first mops2 rops x y) trivial (.loop ?_)
    refine rm_out mops2 x y ?_ 16 0 rfl (by decide)
    refine .out 1 rmTd 300 (rm_end mops2 rops x y _) ⟨⟨h2, by rw [h3]; decide⟩, beq_len h3, h4, Nat.beq_refl _, trivial⟩ ⟨_, nmP_val _, ?_⟩
    show (nmP (toF (numI 16 (caL (rmD x.val y.val 16))))).val? = _
    rw [h5]
    exact nmP_val _
end Go.Proofs.Ytahkpabndfaoiaa
