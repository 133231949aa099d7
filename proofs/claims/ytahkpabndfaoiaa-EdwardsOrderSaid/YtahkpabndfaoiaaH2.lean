/-
The reference's numbers: what its functions come to.
-/
import Derived.Test.YtahkpabndfaoiaaH1
namespace Eng
open Go Go.RowKit

theorem wu_id {x : Int} (h : 0 ≤ x) (h' : x < 18446744073709551616) : wu x = x := Fw.wr_id ⟨h, h'⟩
theorem w8_nat (m : Nat) : IntKind.wrap .u8 (m : Int) = ((m % 256 : Nat) : Int) := rfl

theorem dg16_8 (n i : Nat) : dg 8 n (2 * i) + 256 * dg 8 n (2 * i + 1) = dg 16 n i := by
  unfold dg
  have e1 : 8 * (2 * i) = 16 * i := by omega
  have e2 : 2 ^ (8 * (2 * i + 1)) = 2 ^ (16 * i) * 256 := by rw [show 8 * (2 * i + 1) = 16 * i + 8 by omega, Nat.pow_add]
  rw [e1, e2, ← Nat.div_div_eq_div_mul]
  generalize n / 2 ^ (16 * i) = m
  omega
theorem dg8_lt (n i : Nat) : 0 ≤ dg 8 n i ∧ dg 8 n i < 256 := dg_nn 8 n i
theorem dg16_lt (n i : Nat) : 0 ≤ dg 16 n i ∧ dg 16 n i < 65536 := dg_nn 16 n i

theorem byte_lo (n i : Nat) : IntKind.wrap .u8 (dg 16 n i) = dg 8 n (2 * i) := by
  unfold dg
  rw [w8_nat, show 8 * (2 * i) = 16 * i by omega]
  generalize n / 2 ^ (16 * i) = m
  have : m % 2 ^ 16 % 256 = m % 2 ^ 8 := by omega
  rw [this]
theorem byte_hi (n i : Nat) : IntKind.wrap .u8 ((dg 16 n i).fdiv (2 ^ 8)) = dg 8 n (2 * i + 1) := by
  unfold dg
  have e2 : 2 ^ (8 * (2 * i + 1)) = 2 ^ (16 * i) * 256 := by rw [show 8 * (2 * i + 1) = 16 * i + 8 by omega, Nat.pow_add]
  rw [e2, ← Nat.div_div_eq_div_mul]
  generalize n / 2 ^ (16 * i) = m
  have e1 : (((m % 2 ^ 16 : Nat) : Int)).fdiv (2 ^ 8) = ((m % 2 ^ 16 / 256 : Nat) : Int) := by
    rw [Int.fdiv_eq_ediv_of_nonneg _ (by decide)]; rfl
  rw [e1, w8_nat]
  have : m % 2 ^ 16 / 256 % 256 = m / 256 % 2 ^ 8 := by omega
  rw [this]

theorem mod_step (w a k : Nat) : a % 2 ^ (w * (k + 1)) = a % 2 ^ (w * k) + 2 ^ (w * k) * (a / 2 ^ (w * k) % 2 ^ w) := by
  rw [Nat.mul_add, Nat.mul_one, Nat.pow_add, Nat.mod_mul]

/-- digits in their bounds -/
def InD (w : Nat) (l : List Int) : Prop := ∀ a ∈ l, 0 ≤ a ∧ a < ((2 ^ w : Nat) : Int)
theorem InD.nil (w : Nat) : InD w [] := fun a h => by cases h
theorem InD.cons {w : Nat} {a : Int} {l : List Int} (ha : 0 ≤ a ∧ a < ((2 ^ w : Nat) : Int)) (h : InD w l) : InD w (a :: l) := by
  intro b hb
  rcases List.mem_cons.1 hb with rfl | hb
  · exact ha
  · exact h b hb
theorem InD.head {w : Nat} {a : Int} {l : List Int} (h : InD w (a :: l)) : 0 ≤ a ∧ a < ((2 ^ w : Nat) : Int) := h a (.head _)
theorem InD.tail {w : Nat} {a : Int} {l : List Int} (h : InD w (a :: l)) : InD w l := fun b hb => h b (.tail _ hb)
theorem InD.dig (w x n : Nat) : InD w (digI w x n) := by
  intro a ha
  obtain ⟨i, _, rfl⟩ := List.mem_map.1 ha
  exact dg_nn w x i
theorem numI_lt {w : Nat} : ∀ {l : List Int}, InD w l → numI w l < 2 ^ (w * l.length)
  | [], _ => by simp [numI]
  | a :: l, h => by
    have ih := numI_lt h.tail
    have ha := h.head
    simp only [numI, List.length_cons]
    rw [show w * (l.length + 1) = w + w * l.length by rw [Nat.mul_add, Nat.mul_one, Nat.add_comm], Nat.pow_add]
    have h1 : a.toNat < 2 ^ w := by omega
    have h2 : 2 ^ w * (numI w l + 1) ≤ 2 ^ w * 2 ^ (w * l.length) := Nat.mul_le_mul_left _ ih
    rw [Nat.mul_add, Nat.mul_one] at h2
    omega

theorem subD_spec : ∀ {l m : List Int} {c : Int}, l.length = m.length → InD 16 l → InD 16 m → (c = 0 ∨ c = 1) →
    InD 16 (subD l m c) ∧ (subD l m c).length = l.length ∧ ∃ c' : Nat, (c' = 0 ∨ c' = 1) ∧ numI 16 l + 2 ^ (16 * l.length) * c' = numI 16 (subD l m c) + numI 16 m + c.toNat
  | [], [], c, _, _, _, hc => ⟨InD.nil 16, rfl, c.toNat, by rcases hc with rfl | rfl <;> simp, by simp [numI, subD]⟩
  | a :: l, b :: m, c, hlen, hl, hm, hc => by
    have ha := hl.head
    have hb := hm.head
    simp only [show ((2 ^ 16 : Nat) : Int) = 65536 from rfl] at ha hb
    have hx : wu (wu (wu (a + 65536) - b) - c) = a + 65536 - b - c := by
      have h1 : wu (a + 65536) = a + 65536 := wu_id (by omega) (by omega)
      have h2 : wu (a + 65536 - b) = a + 65536 - b := wu_id (by omega) (by omega)
      rw [h1, h2]
      exact wu_id (by rcases hc with rfl | rfl <;> omega) (by rcases hc with rfl | rfl <;> omega)
    simp only [subD, hx]
    generalize hX : a + 65536 - b - c = X
    have hX0 : 0 ≤ X ∧ X < 131072 := by rcases hc with rfl | rfl <;> omega
    have e1 : X.tmod 65536 = X % 65536 := Int.tmod_eq_emod_of_nonneg hX0.1
    have e2 : X.tdiv 65536 = X / 65536 := Int.tdiv_eq_ediv_of_nonneg hX0.1
    have e3 : wu (X / 65536) = X / 65536 := wu_id (by omega) (by omega)
    have e4 : wu (1 - X / 65536) = 1 - X / 65536 := wu_id (by omega) (by omega)
    rw [e1, e2, e3, e4]
    obtain ⟨i1, i2, c', i3, i4⟩ := subD_spec (l := l) (m := m) (c := 1 - X / 65536) (by simpa using hlen) hl.tail hm.tail (by omega)
    refine ⟨InD.cons (by simp only [show ((2 ^ 16 : Nat) : Int) = 65536 from rfl]; omega) i1, by simp [i2], c', i3, ?_⟩
    simp only [numI, List.length_cons]
    rw [show 16 * (l.length + 1) = 16 + 16 * l.length by omega, Nat.pow_add]
    have hm16 : (2 : Nat) ^ 16 = 65536 := rfl
    rw [hm16, Nat.mul_assoc]
    generalize 2 ^ (16 * l.length) * c' = Q at *
    generalize numI 16 (subD l m (1 - X / 65536)) = R at *
    omega

theorem digI_of {w n N : Nat} {l : List Int} (hl : l.length = n) (hd : InD w l) (h : numI w l = N % 2 ^ (w * n)) : l = digI w N n := by
  rw [← digI_mod, ← h, ← hl]
  exact (digI_numI hd).symm

end Eng
namespace Go.Proofs.Ytahkpabndfaoiaa
open Eng Go Go.RowKit Go.Proofs Ec

def specROf : FnSpec := spec1 dK fun n => (.pv (numP n), [])
theorem rof_ok : SpecOK Try.prog 41 specROf :=
  spec1_ok Try.func41 (by decide +kernel) (by kernel_rfl) (tableOK_nil _) mixed (by kernel_rfl) fun n _ => by
    refine ⟨_, _, _, rof_x n, trivial, intsS_val _ _, ?_⟩
    have : ((List.range 16).map fun i => wu (wu (dg 8 n (2 * i)) + wu (256 * wu (dg 8 n (2 * i + 1))))) = digI 16 n 16 := by
      refine List.map_congr_left fun i _ => ?_
      have h1 := dg8_lt n (2 * i)
      have h2 := dg8_lt n (2 * i + 1)
      rw [wu_id h1.1 (by omega), wu_id h2.1 (by omega), wu_id (x := 256 * _) (by omega) (by omega), wu_id (by omega) (by omega), dg16_8]
    rw [this]
    exact numP_val n

def specRBytes : FnSpec := spec1 dN fun n => (.pv (keyP n), [])
theorem two_by_two (f : Nat → Int) : (List.range 16).flatMap (fun i => [f (2 * i), f (2 * i + 1)]) = (List.range 32).map f := rfl
theorem rbytes_ok : SpecOK Try.prog 10 specRBytes :=
  spec1_ok Try.func10 (by decide +kernel) (by kernel_rfl) (tableOK_nil _) mixed (by kernel_rfl) fun n _ => by
    refine ⟨_, _, _, rbytes_x n, trivial, intsS_val _ _, ?_⟩
    have : ((List.range 16).flatMap fun i => [IntKind.wrap .u8 (dg 16 n i), IntKind.wrap .u8 ((dg 16 n i).fdiv (2 ^ 8))]) = digI 8 n 32 := by
      simp only [byte_lo, byte_hi]
      exact two_by_two (dg 8 n)
    rw [this]
    exact keyP_val n

theorem lessX_is (a b : Nat) : ∀ k, lessX a b k = some (.pv (bo (decide (a % 2 ^ (16 * k) < b % 2 ^ (16 * k)))), [])
  | 0 => by simp [lessX, Nat.mod_one]
  | k + 1 => by
    unfold lessX
    rw [lessX_is a b k, mod_step 16 a k, mod_step 16 b k]
    have ha : a % 2 ^ (16 * k) < 2 ^ (16 * k) := Nat.mod_lt _ (Nat.two_pow_pos _)
    have hb : b % 2 ^ (16 * k) < 2 ^ (16 * k) := Nat.mod_lt _ (Nat.two_pow_pos _)
    have e1 : dg 16 a k = ((a / 2 ^ (16 * k) % 2 ^ 16 : Nat) : Int) := rfl
    have e2 : dg 16 b k = ((b / 2 ^ (16 * k) % 2 ^ 16 : Nat) : Int) := rfl
    rw [e1, e2]
    generalize a / 2 ^ (16 * k) % 2 ^ 16 = x
    generalize b / 2 ^ (16 * k) % 2 ^ 16 = y
    generalize 2 ^ (16 * k) = q at *
    generalize a % q = u at *
    generalize b % q = v at *
    rcases Nat.lt_trichotomy x y with h | h | h
    · have h1 : ((x : Int) != (y : Int)) = true := by simp; omega
      rw [h1, cond_true]
      have h2 : q * (x + 1) ≤ q * y := Nat.mul_le_mul_left _ h
      rw [Nat.mul_add, Nat.mul_one] at h2
      have h3 : decide ((x : Int) < y) = decide (u + q * x < v + q * y) := decide_eq_decide.2 ⟨fun _ => by omega, fun _ => by omega⟩
      rw [h3]
    · subst h
      have h1 : ((x : Int) != (x : Int)) = false := by simp
      rw [h1, cond_false]
      have h3 : decide (u < v) = decide (u + q * x < v + q * x) := decide_eq_decide.2 ⟨fun _ => by omega, fun _ => by omega⟩
      rw [h3]
    · have h1 : ((x : Int) != (y : Int)) = true := by simp; omega
      rw [h1, cond_true]
      have h2 : q * (y + 1) ≤ q * x := Nat.mul_le_mul_left _ h
      rw [Nat.mul_add, Nat.mul_one] at h2
      have h3 : decide ((x : Int) < y) = decide (u + q * x < v + q * y) := decide_eq_decide.2 ⟨fun _ => by omega, fun _ => by omega⟩
      rw [h3]
def specRLess : FnSpec := spec2 dN dN fun a b => (.pv (bo (decide (a % 2 ^ 256 < b % 2 ^ 256))), [])
theorem rless_ok : SpecOK Try.prog 60 specRLess :=
  spec2_ok Try.func60 (by decide +kernel) (by kernel_rfl) (tableOK_nil _) mixed (by kernel_rfl) fun a b _ =>
    ⟨_, _, _, (rless_x a b).trans (lessX_is a b 16), trivial, rfl, rfl⟩

def minusN (a b : Nat) : Nat := a % 2 ^ 256 + 2 ^ 256 - b % 2 ^ 256
def specRMinus : FnSpec := spec2 dN dN fun a b => (.pv (numP (minusN a b)), [])
theorem minus_dig (a b : Nat) : subD (digI 16 a 16) (digI 16 b 16) 0 = digI 16 (minusN a b) 16 := by
  obtain ⟨h1, h2, c', h3, h4⟩ := subD_spec (l := digI 16 a 16) (m := digI 16 b 16) (c := 0) (by simp [digI_length]) (InD.dig _ _ _) (InD.dig _ _ _) (.inl rfl)
  rw [digI_length] at h2 h4
  refine digI_of h2 h1 ?_
  rw [numI_digI, numI_digI] at h4
  have hlt := numI_lt h1
  rw [h2] at hlt
  unfold minusN
  have hb : b % 2 ^ (16 * 16) < 2 ^ (16 * 16) := Nat.mod_lt _ (Nat.two_pow_pos _)
  have ha : a % 2 ^ (16 * 16) < 2 ^ (16 * 16) := Nat.mod_lt _ (Nat.two_pow_pos _)
  have e : (2 : Nat) ^ (16 * 16) = 2 ^ 256 := rfl
  rw [e] at *
  simp only [Int.toNat_zero, Nat.add_zero] at h4
  generalize a % 2 ^ 256 = x at *
  generalize b % 2 ^ 256 = y at *
  generalize numI 16 (subD (digI 16 a 16) (digI 16 b 16) 0) = z at *
  rcases h3 with rfl | rfl
  · have : x + 2 ^ 256 - y = z + 2 ^ 256 := by omega
    rw [this, Nat.add_mod_right, Nat.mod_eq_of_lt hlt]
  · have : x + 2 ^ 256 - y = z := by omega
    rw [this, Nat.mod_eq_of_lt hlt]
theorem rminus_ok : SpecOK Try.prog 75 specRMinus :=
  spec2_ok Try.func75 (by decide +kernel) (by kernel_rfl) (tableOK_nil _) mixed (by kernel_rfl) fun a b _ => by
    refine ⟨_, _, _, rminus_x a b, trivial, intsS_val _ _, ?_⟩
    rw [minus_dig]
    exact numP_val _

theorem rprime_ok : SpecOK Try.prog 61 (spec0 (.pv (numP Ec.P))) :=
  spec0_ok (n := 3000) Try.func61 (by decide +kernel) (by kernel_rfl) (tableOK_nil _) mixed ⟨_, _, _, rprime_x, trivial, intsS_val _ _, numP_val _⟩
theorem order_ok : SpecOK Try.prog 11 (spec0 (.pv (numP Ec.L))) :=
  spec0_ok (n := 30000) Try.func11 (by decide +kernel) (by kernel_rfl) (tableOK_nil _) mixed ⟨_, _, _, order_x, trivial, intsS_val _ _, numP_val _⟩

def specRSmall : FnSpec := spec1 (dI .u64) fun x => (.pv (numP x.toNat), [Fw.W x])
theorem rsmall_ok : SpecOK Try.prog 48 specRSmall :=
  spec1_ok Try.func48 (by decide +kernel) (by kernel_rfl) (tableOK_nil _) mixed (by kernel_rfl) fun x hx => by
    have hw : Fw.W x := hx.1
    refine ⟨_, _, _, rsmall_x x, trivial, intsS_val _ _, ?_⟩
    have : ((List.range 4).map fun i => Fw.andI (x.fdiv (2 ^ (min (16 * i) 64))) 65535) ++ List.replicate 12 0 = digI 16 x.toNat 16 := by
      have hr : digI 16 x.toNat 16 = (List.range 4).map (dg 16 x.toNat) ++ (List.range 12).map fun i => dg 16 x.toNat (i + 4) := by
        unfold digI
        rw [show List.range 16 = List.range 4 ++ (List.range 12).map (fun i => i + 4) from by decide, List.map_append, List.map_map]
        rfl
      rw [hr]
      have hxn : ((x.toNat : Nat) : Int) = x := Int.toNat_of_nonneg hw.1
      have hlt : x.toNat < 2 ^ 64 := by unfold Fw.W at hw; omega
      congr 1
      · refine List.map_congr_left fun i hi => ?_
        have hi := List.mem_range.1 hi
        have e1 : x.fdiv (2 ^ (min (16 * i) 64)) = ((x.toNat / 2 ^ (16 * i) : Nat) : Int) := by
          rw [Nat.min_eq_left (by omega), Int.fdiv_eq_ediv_of_nonneg _ (Int.pow_nonneg (by decide)), ← Fw.pow_cast, Int.natCast_ediv, hxn]
        have hm : x.toNat / 2 ^ (16 * i) < 2 ^ 64 := Nat.lt_of_le_of_lt (Nat.div_le_self _ _) hlt
        rw [e1]
        have := Fw.and_low (a := ((x.toNat / 2 ^ (16 * i) : Nat) : Int)) ⟨Int.natCast_nonneg _, by omega⟩ 16 (by decide)
        refine Eq.trans this ?_
        unfold dg
        rw [Int.natCast_emod]
      · have : (List.range 12).map (fun i => dg 16 x.toNat (i + 4)) = (List.range 12).map fun _ => 0 := by
          refine List.map_congr_left fun i hi => ?_
          unfold dg
          have : x.toNat / 2 ^ (16 * (i + 4)) = 0 := Nat.div_eq_of_lt (Nat.lt_of_lt_of_le hlt (Nat.pow_le_pow_right (by decide) (by omega)))
          rw [this]
          rfl
        rw [this]
        rfl
    rw [this]
    exact numP_val _

end Go.Proofs.Ytahkpabndfaoiaa
