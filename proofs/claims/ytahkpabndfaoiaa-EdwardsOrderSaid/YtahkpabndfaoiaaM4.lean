/-
The field of 2^255 - 19, the curve's number, the base; the base so often as L says is nought.
-/
import Derived.Test.YtahkpabndfaoiaaM2
import Derived.Test.YtahkpabndfaoiaaM3
namespace Ec

def P : Nat := 57896044618658097711785492504343953926634992332820282019728792003956564819949
def L : Nat := 7237005577332262213973186563042994240857116359379907606001950938285454250989
instance : NeZero P := ⟨by decide⟩
theorem genP' : Gen P 2 := genP
theorem genL' : Gen L 2 := genL

theorem val_pow {n : Nat} [NeZero n] (x : Fin n) (k : Nat) : (x ^ k).val = x.val ^ k % n := by
  induction k with
  | zero => 
    have : (x ^ 0 : Fin n) = 1 := by grind
    rw [this]
    show 1 % n = _
    simp
  | succ k ih =>
    have : (x ^ (k + 1) : Fin n) = x ^ k * x := by grind
    rw [this, Fin.val_mul, ih, Nat.pow_succ, Nat.mod_mul_mod]

theorem fldP : Fld P where
  big := by decide
  fermat := by
    intro x hx
    have h := genP'.fermat (x := x.val) (by
      rcases Nat.eq_zero_or_pos x.val with h | h
      · exact absurd (Fin.ext h) hx
      · exact h) x.isLt
    refine Fin.ext ?_
    rw [val_pow, h]
    rfl

def D : Fin P := ⟨37095705934669439343138083508754565189542113879843219016388785533085940283555, by decide⟩
def BX : Fin P := ⟨15112221349535400772501151409588531511454012693041857206046113283949847762202, by decide⟩
def BY : Fin P := ⟨46316835694926478169428394003475163141307993866256225615783033603165251855960, by decide⟩
/-- a root of -1 -/
def I : Fin P := ⟨19681161376707505956807079304988542015446066515923890162744021073123829784752, by decide⟩

theorem I_sq : I * I = -1 := by decide +kernel

theorem pow_val (x : Fin P) (k : Nat) (hk : k < 2 ^ 600) : (x ^ k).val = pw P 600 x.val k 1 := by
  rw [val_pow, pw_eq P (by decide) 600 _ _ _ hk (by decide), Nat.one_mul]

theorem pw_half : pw P 600 37095705934669439343138083508754565189542113879843219016388785533085940283555 28948022309329048855892746252171976963317496166410141009864396001978282409974 1 = 57896044618658097711785492504343953926634992332820282019728792003956564819948 := by decide +kernel

theorem D_half : D ^ ((P - 1) / 2) = -1 := by
  refine Fin.ext ?_
  rw [pow_val _ _ (by decide +kernel)]
  exact pw_half

theorem curP : Cur P D where
  toFld := fldP
  root := ⟨I, I_sq⟩
  nsq := by
    intro z hz
    have hz0 : z ≠ 0 := by
      intro h
      subst h
      have : D ≠ 0 := by decide
      exact this (by rw [← hz]; grind)
    have h1 := fldP.fermat z hz0
    have h2 := D_half
    rw [← hz] at h2
    have e : (z * z) ^ ((P - 1) / 2) = z ^ (P - 1) := by
      have : z * z = z ^ 2 := by grind
      rw [this]
      generalize hm : (P - 1) / 2 = m
      have hP : P - 1 = 2 * m := by
        have : (P - 1) % 2 = 0 := by decide +kernel
        omega
      rw [hP]
      clear h2 h1 hm hP hz
      induction m with
      | zero => grind
      | succ m ih =>
        have a : z ^ (2 * (m + 1)) = z ^ (2 * m) * z ^ 2 := by
          rw [show 2 * (m + 1) = 2 * m + 2 from by omega]; grind
        have b : (z ^ 2) ^ (m + 1) = (z ^ 2) ^ m * z ^ 2 := by grind
        rw [a, b, ih]
    rw [e, h1] at h2
    exact absurd h2 (by decide +kernel)

theorem on_base : On D BX BY := by unfold On; decide +kernel
def B : Pt P D := ⟨BX, BY, on_base⟩

theorem D_is : D * 121666 = -121665 := by decide +kernel
theorem BY_is : BY * 5 = 4 := by decide +kernel

end Ec
