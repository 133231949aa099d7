/-
The statements: the chapter's rows; numbers that are the same modulo the order.
-/
import Derived.Test.YtahkpabndfaoiaaL1
import Derived.Test.YtahkpabndfaoiaaH7
namespace Go.Proofs.Ytahkpabndfaoiaa
open Eng Go Go.RowKit Go.Proofs Ec

theorem p_mul (p : X4) (e : Nat) : pops.pmul p e = mulP p e := rfl
theorem p_base : pops.pbase = base4 := rfl
theorem p_same (p q : X4) : pops.same p q = X4.same p q := rfl
theorem p_bytes (p : X4) : pops.pbytes p = bNum p := rfl
theorem p_y (p : X4) : pops.py p = yNum p := rfl

theorem mulP_rep {p : X4} {a : Pt P D} (h : Rep p a) (e : Nat) : Rep (mulP p e) (pmul a (e % 2 ^ 256)) := by
  have := h.mul (bits256 e 256) X4.nought 0 rep_nought
  rw [numOf_top e 256 (Nat.le_refl _), top_all] at this
  exact this
theorem baseP_rep (e : Nat) : Rep (mulP base4 e) (pmul B (e % 2 ^ 256)) := mulP_rep rep_base e
theorem zero_rep : Rep zeroX4 Cur.zero := by rw [zeroX4_is]; exact rep_nil
theorem same_of {p q : X4} {a b : Pt P D} (hp : Rep p a) (hq : Rep q b) (h : a = b) : X4.same p q = true := by
  rw [hp.same hq, h]
  simp
theorem flat_of {p : X4} {a : Pt P D} (h : Rep p a) : flatOf p = (a.x, a.y) := by
  obtain ⟨h1, h2⟩ := h.flat
  unfold flatOf
  rw [h1, h2]

/-- the base, so often, hangs on the number modulo the order -/
theorem pmul_mod (n : Nat) : pmul B (n % Ec.L) = pmul B n := by
  have h : n = Ec.L * (n / Ec.L) + n % Ec.L := (Nat.div_add_mod n Ec.L).symm
  have h1 : pmul B (Ec.L * (n / Ec.L) + n % Ec.L) = padd (pmul B (Ec.L * (n / Ec.L))) (pmul B (n % Ec.L)) := curP.mul_add B _ _
  have h2 : pmul B (Ec.L * (n / Ec.L)) = Cur.zero := by
    have := curP.mul_mul B Ec.L (n / Ec.L)
    rw [show curP.mul B Ec.L = Cur.zero from base_L, curP.mul_zero] at this
    exact this.symm
  rw [h2] at h1
  rw [← h] at h1
  rw [h1]
  exact (curP.zero_add _).symm
theorem pmul_pmul (a : Pt P D) (m n : Nat) : pmul (pmul a m) n = pmul a (m * n) := curP.mul_mul a m n

theorem L_small : Ec.L % 2 ^ 256 = Ec.L := by decide +kernel
theorem K1_num (t : Int) : numI 8 (K1 t) = t.toNat := by
  unfold K1
  simp only [numI, numI_zeros, Nat.mul_zero, Nat.add_zero]
theorem K0_num : numI 8 K0 = 0 := numI_zeros 8 32
theorem kB1_ok {t : Int} (h : 0 ≤ t ∧ t < 256) : kB1 t := by
  intro a ha
  rcases List.mem_cons.1 ha with rfl | ha
  · exact h
  · rw [List.eq_of_mem_replicate ha]; decide
theorem kB0_ok : kB0 := by
  intro a ha
  rw [List.eq_of_mem_replicate ha]; decide

theorem one_small : 1 % 2 ^ 256 = 1 := by decide
theorem pmul_one : pmul B 1 = B := curP.zero_add B
theorem base1_y : yNum (mulP base4 1) = BY.val := by
  have h := baseP_rep 1
  rw [one_small, pmul_one] at h
  rw [yNum_eq, flat_of h]
  rfl
theorem base_L_same : X4.same (mulP base4 Ec.L) zeroX4 = true := by
  have h := baseP_rep Ec.L
  rw [L_small, base_L] at h
  exact same_of h zero_rep rfl
theorem nought_bytes : bNum zeroX4 = 1 := by
  rw [bNum_eq, flat_of zero_rep]
  decide +kernel
theorem one_key : eqL (digI 8 1 32) (K1 1) = true := by decide +kernel
theorem BY_bytes : ∀ i, i < 32 → dg 8 BY.val i = if i = 0 then 88 else 102 := by decide +kernel
theorem knX_is (n : Nat) (h : n ≤ 31) : knX pops rops BY.val n = some (.pv (bo true), [zeroOb, zeroOb, zeroOb, zeroOb, zeroOb, zeroOb, zeroOb, zeroOb, kB1 1]) := by
  induction n with
  | zero =>
    unfold knX
    rw [BY_bytes 0 (by decide), p_mul, p_base, p_same, rops_ord, base_L_same, p_bytes, nought_bytes, one_key]
    rfl
  | succ n ih =>
    unfold knX
    rw [BY_bytes (31 - n) (by omega), if_neg (by omega)]
    exact ih (by omega)
theorem known_m : callX Try.prog (lookT (T11 pops rops)) 3000 Try.f16 [] = some (.pv (bo true), [zeroOb, zeroOb, zeroOb, zeroOb, zeroOb, zeroOb, zeroOb, zeroOb, kB1 1]) := by
  have h := known_x pops rops
  rw [K1_num, p_mul, p_base, p_y, show (1 : Int).toNat = 1 from rfl, base1_y, knX_is 31 (by decide)] at h
  exact h
theorem known_ok : SpecOK Try.prog 16 (spec0 (.pv (bo true))) :=
  spec0_ok (n := 3000) Try.func16 (by decide +kernel) (by kernel_rfl) T11_ok mixed ⟨_, _, _, known_m, ⟨zeroOb_ok, zeroOb_ok, zeroOb_ok, zeroOb_ok, zeroOb_ok, zeroOb_ok, zeroOb_ok, zeroOb_ok, kB1_ok (by decide), trivial⟩, rfl, rfl⟩
theorem T12_ok : TableOK Try.prog (lookT (T12 pops rops maVal)) := tableOK_cons known_ok (tableOK_cons muladd_ok T11_ok)

theorem order_same (k n m : Nat) (hm : m = (k % 2 ^ 256 * n) % Ec.L) (hn : n < 2 ^ 256) : X4.same (mulP (mulP base4 k) n) (mulP base4 m) = true := by
  have h1 := mulP_rep (baseP_rep k) n
  have h2 := baseP_rep m
  have hmL : m < Ec.L := by rw [hm]; exact Nat.mod_lt _ L_pos
  have hL := L_lt
  rw [Nat.mod_eq_of_lt (show m < 2 ^ 256 by omega), hm, pmul_mod] at h2
  rw [Nat.mod_eq_of_lt hn, pmul_pmul] at h1
  rw [hm]
  exact same_of h1 h2 rfl
theorem maVal_k (k n : Nat) (hn : n < 2 ^ 256) : maVal k n 0 = (k % 2 ^ 256 * n) % Ec.L := by
  rw [maVal_eq, Nat.mod_eq_of_lt hn, Nat.zero_mod, Nat.add_zero]
theorem eorder_m (k : Nat) {t : Int} (ht : 0 ≤ t ∧ t < 256) : Meets (callX Try.prog (lookT (T12 pops rops maVal)) 3000 Try.f3 [keyP k, .one (.val (.int .u8 t))]) (.pv (bo true)) := by
  have h := eorder_x pops rops maVal k t
  simp only [K1_num, K0_num, p_mul, p_base, p_same, rops_ord] at h
  have e1 : X4.same (mulP base4 k) (mulP base4 (maVal k (1 : Int).toNat 0)) = true := by
    have hk := baseP_rep k
    have h2 := baseP_rep (maVal k (1 : Int).toNat 0)
    have hv : maVal k (1 : Int).toNat 0 = (k % 2 ^ 256) % Ec.L := by
      have := maVal_k k 1 (by decide)
      rw [Nat.mul_one] at this
      exact this
    have hmL : (k % 2 ^ 256) % Ec.L < Ec.L := Nat.mod_lt _ L_pos
    have hL := L_lt
    rw [hv, Nat.mod_eq_of_lt (show (k % 2 ^ 256) % Ec.L < 2 ^ 256 by omega), pmul_mod] at h2
    rw [hv]
    exact same_of hk h2 rfl
  have e2 : X4.same (mulP (mulP base4 k) Ec.L) zeroX4 = true := by
    have h1 := mulP_rep (baseP_rep k) Ec.L
    rw [L_small, pmul_pmul, Nat.mul_comm, ← pmul_pmul, base_L] at h1
    refine same_of h1 zero_rep ?_
    exact curP.mul_zero _
  have e3 : X4.same (mulP (mulP base4 k) t.toNat) (mulP base4 (maVal k t.toNat 0)) = true := order_same k t.toNat _ (maVal_k k _ (by omega)) (by omega)
  rw [e1, e2, e3] at h
  exact ⟨_, _, .bool true, h, ⟨kB1_ok ht, kB1_ok ht, kB0_ok, zeroOb_ok, zeroOb_ok, zeroOb_ok, zeroOb_ok, kB1_ok (by decide), kB0_ok, trivial⟩, rfl, rfl⟩

end Go.Proofs.Ytahkpabndfaoiaa
