/-
The statements: each point is read from its bytes, and its opposite from the bytes with the highest bit turned.
-/
import Derived.Test.YtahkpabndfaoiaaQL

/- The statements: each point is read from its bytes, and its opposite from the bytes with the highest bit turned. -/
namespace Go.Proofs.Ytahkpabndfaoiaa
open Eng Go Go.RowKit Go.Proofs Ec

theorem xor8_all : ∀ m < 256, xor8 ((m : Nat) : Int) 128 = (((m + 128) % 256 : Nat) : Int) := by decide +kernel
theorem dg31 (n : Nat) : dg 8 n 31 = ((n / 2 ^ 248 % 256 : Nat) : Int) := rfl
theorem tm128 (n : Nat) : (dg 8 n 31).tmod 128 = ((n / 2 ^ 248 % 256 % 128 : Nat) : Int) := by
  rw [dg31, Int.tmod_eq_emod_of_nonneg (Int.natCast_nonneg _)]
  rfl
theorem top_m (m y : Nat) (hm : 0 < m) (hy : y < m * 128) (c : Bool) : (y + cond c (m * 128) 0) % m = y % m ∧ (y + cond c (m * 128) 0) / m = y / m + cond c 128 0 ∧ y / m < 128 := by
  have h := Nat.div_lt_of_lt_mul hy
  cases c with
  | true => exact ⟨by rw [cond_true, Nat.add_mul_mod_self_left], by rw [cond_true, Nat.add_mul_div_left _ _ hm, cond_true], h⟩
  | false => exact ⟨rfl, rfl, h⟩
theorem p255 : (2 : Nat) ^ 255 = 2 ^ 248 * 128 := by decide
theorem back_m (m y : Nat) (c : Bool) (h : y / m < 128) : y % m + m * (((y / m + cond c 128 0) % 256 + 128) % 256) = y + cond (!c) (m * 128) 0 := by
  have e := Nat.mod_add_div y m
  generalize y / m = q at *
  cases c with
  | true =>
    rw [cond_true, Bool.not_true, cond_false, show ((q + 128) % 256 + 128) % 256 = q by omega]
    exact e
  | false =>
    rw [cond_false, Bool.not_false, cond_true, show ((q + 0) % 256 + 128) % 256 = q + 128 by omega, Nat.mul_add, ← Nat.add_assoc, e]
theorem flip_num (n : Nat) : numI 8 (flip n) = n % 2 ^ 248 + 2 ^ 248 * ((n / 2 ^ 248 % 256 + 128) % 256) := by
  unfold flip
  rw [numI_app]
  have h1 : numI 8 ((List.range 31).map (dg 8 n)) = n % 2 ^ 248 := numI_digI 8 31 n
  rw [h1, dg31, xor8_all _ (Nat.mod_lt _ (by decide))]
  simp only [numI, Int.toNat_natCast, List.length_map, List.length_range, Nat.mul_zero, Nat.add_zero]
theorem flip_ok (n : Nat) : flipB n := by
  intro a ha
  unfold flip at ha
  rcases List.mem_append.1 ha with h | h
  · obtain ⟨i, _, rfl⟩ := List.mem_map.1 h
    exact dg_nn 8 _ _
  · rw [List.mem_singleton.1 h, dg31, xor8_all _ (Nat.mod_lt _ (by decide))]
    have : (n / 2 ^ 248 % 256 + 128) % 256 < 256 := Nat.mod_lt _ (by decide)
    omega
theorem xy_form (x y : Fin Ec.P) : xyNat x y = y.val + cond (x.val % 2 == 1) (2 ^ 255) 0 := rfl
theorem flip_xy (x y : Fin Ec.P) : numI 8 (flip (xyNat x y)) = y.val + cond (!(x.val % 2 == 1)) (2 ^ 255) 0 := by
  have hy : y.val < 2 ^ 248 * 128 := by rw [← p255]; exact Nat.lt_trans y.isLt P_lt255
  rw [flip_num, xy_form, p255]
  generalize (x.val % 2 == 1) = c
  obtain ⟨h1, h2, h3⟩ := top_m (2 ^ 248) y.val (Nat.two_pow_pos 248) hy c
  rw [h1, h2]
  exact back_m _ _ _ h3
theorem top_y (x y : Fin Ec.P) : (dg 8 y.val 31 != (dg 8 (xyNat x y) 31).tmod 128) = false := by
  have hy : y.val < 2 ^ 248 * 128 := by rw [← p255]; exact Nat.lt_trans y.isLt P_lt255
  rw [tm128, dg31, xy_form, p255]
  generalize (x.val % 2 == 1) = c
  obtain ⟨h1, h2, h3⟩ := top_m (2 ^ 248) y.val (Nat.two_pow_pos 248) hy c
  rw [h2]
  generalize y.val / 2 ^ 248 = q at *
  have : q % 256 = (q + cond c 128 0) % 256 % 128 := by cases c <;> simp only [cond_true, cond_false] <;> omega
  rw [this, bne_self_eq_false]
theorem top_x (x y : Fin Ec.P) : (((dg 8 x.val 0).tmod 2 == 1) != ge8 (dg 8 (xyNat x y) 31)) = false := by
  have hy : y.val < 2 ^ 248 * 128 := by rw [← p255]; exact Nat.lt_trans y.isLt P_lt255
  have hx : ((dg 8 x.val 0).tmod 2 == 1) = (x.val % 2 == 1) := by
    have e : dg 8 x.val 0 = ((x.val / 1 % 256 : Nat) : Int) := rfl
    rw [e, Nat.div_one, Int.tmod_eq_emod_of_nonneg (Int.natCast_nonneg _), Bool.eq_iff_iff]
    simp only [beq_iff_eq]
    omega
  unfold ge8
  rw [hx, dg31, xy_form, p255]
  generalize (x.val % 2 == 1) = c
  obtain ⟨h1, h2, h3⟩ := top_m (2 ^ 248) y.val (Nat.two_pow_pos 248) hy c
  rw [h2]
  generalize y.val / 2 ^ 248 = q at *
  cases c with
  | true =>
    rw [cond_true, decide_eq_true (by omega)]
    rfl
  | false =>
    rw [cond_false, decide_eq_false (by omega)]
    rfl
theorem eqz_dig : (digI 8 0 32) = List.replicate 32 0 := by decide +kernel
theorem eqL_zero (x : Fin Ec.P) : eqL (digI 8 x.val 32) (List.replicate 32 0) = decide (x = 0) := by
  rw [← eqz_dig, eqL_dig]
  refine decide_eq_decide.2 ?_
  have hx : x.val < 2 ^ (8 * 32) := Nat.lt_trans x.isLt (by decide)
  rw [Nat.mod_eq_of_lt hx, Nat.zero_mod]
  exact ⟨fun e => Fin.ext (by simpa using e), fun e => by rw [e]; rfl⟩
theorem ebytes_m (a : Nat) : Meets (callX Try.prog (lookT (T31 gops rops)) 300 Try.f8 [keyP a]) truth := by
  have h := ebytes_x gops rops a
  simp only [g_q4, g_of, g_bytes, g_px, g_py, g_same, g_neg] at h
  obtain ⟨c, h4, _⟩ := any_pt a
  have hb := bNum_of h4
  have hx : xNum (p4 lops a) = c.x.val := by rw [xNum_eq, flat_of h4]
  have hy : yNum (p4 lops a) = c.y.val := by rw [yNum_eq, flat_of h4]
  have o1 : ofP (xyNat c.x c.y) = some ⟨c.x, c.y, 1, c.x * c.y⟩ := by rw [of4, ofN_xy c.on]; rfl
  have ob : AllP [flipB (xyNat c.x c.y)] := ⟨flip_ok _, trivial⟩
  rw [hb, hx, hy, o1, Option.isSome_some, Option.getD_some, same_of h4 (rep1 c) rfl, top_y, top_x, eqL_zero, flip_xy, of4, ofN_bytes, ofC_flip c.on] at h
  by_cases h0 : c.x = 0
  · rw [if_pos h0, decide_eq_true h0] at h
    exact meets_yes h ob
  · rw [if_neg h0, decide_eq_false h0, Option.map_some, Option.isSome_some, Option.getD_some] at h
    have e : X4.same ⟨-c.x, c.y, 1, -c.x * c.y⟩ (X4.neg (p4 lops a)) = true := same_of (rep1 (Cur.neg c)) h4.neg rfl
    simp only [e] at h
    exact meets_yes h ob
theorem edwardsBytes_calls (k0 : Nat) (w : World) : Calls Try.prog 8 #[keyV k0] w fun e w' => e = .returned (.bool true) ∧ Below w.heap.size w w' := by
  obtain ⟨sv', ob, v, h1, h2, h3, h4⟩ := ebytes_m k0
  cases truth_v h4
  exact calls_of_exec T31_ok mixed Try.func8 (ps := [keyP k0]) (vals := [keyV k0]) rfl (by kernel_rfl) h1 h2 h3 w
end Go.Proofs.Ytahkpabndfaoiaa
