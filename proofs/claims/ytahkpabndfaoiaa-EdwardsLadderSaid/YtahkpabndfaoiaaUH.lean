/-
The reference's numbers: what its functions come to.
The reference's bits of bytes, the highest first.
The reference's number of bits, modulo the group's order.
Sums of digits: what the reference's products and bits come to.
The statements' functions: the chapter's rows; the order.
The statements: the chapter's rows; what multiples stand for.
-/
import Derived.Test.YtahkpabndfaoiaaUG
import Derived.Test.YtahkpabndfaoiaaUE
import Derived.Test.YtahkpabndfaoiaaUD

/- The reference's numbers: what its functions come to. -/
namespace Eng
open Go Go.RowKit

theorem wu_id {x : Int} (h : 0 ≤ x) (h' : x < 18446744073709551616) : wu x = x := Fw.wr_id ⟨h, h'⟩
theorem w8_nat (m : Nat) : IntKind.wrap .u8 (m : Int) = ((m % 256 : Nat) : Int) := rfl

theorem dg16_8 (n i : Nat) : dg 8 n (2 * i) + 256 * dg 8 n (2 * i + 1) = dg 16 n i := by
  unfold dg
  have e1 : 8 * (2 * i) = 16 * i := by omega
  have e2 : 2 ^ (8 * (2 * i + 1)) = 2 ^ (16 * i) * 256 := by rw [show 8 * (2 * i + 1) = 16 * i + 8 by omega, Nat.pow_add]
  rw [e1, e2, ← Nat.div_div_eq_div_mul]
  generalize n / 2 ^ (16 * i) = m
  omega
theorem dg8_lt (n i : Nat) : 0 ≤ dg 8 n i ∧ dg 8 n i < 256 := dg_nn 8 n i
theorem dg16_lt (n i : Nat) : 0 ≤ dg 16 n i ∧ dg 16 n i < 65536 := dg_nn 16 n i

theorem byte_lo (n i : Nat) : IntKind.wrap .u8 (dg 16 n i) = dg 8 n (2 * i) := by
  unfold dg
  rw [w8_nat, show 8 * (2 * i) = 16 * i by omega]
  generalize n / 2 ^ (16 * i) = m
  have : m % 2 ^ 16 % 256 = m % 2 ^ 8 := by omega
  rw [this]
theorem byte_hi (n i : Nat) : IntKind.wrap .u8 ((dg 16 n i).fdiv (2 ^ 8)) = dg 8 n (2 * i + 1) := by
  unfold dg
  have e2 : 2 ^ (8 * (2 * i + 1)) = 2 ^ (16 * i) * 256 := by rw [show 8 * (2 * i + 1) = 16 * i + 8 by omega, Nat.pow_add]
  rw [e2, ← Nat.div_div_eq_div_mul]
  generalize n / 2 ^ (16 * i) = m
  have e1 : (((m % 2 ^ 16 : Nat) : Int)).fdiv (2 ^ 8) = ((m % 2 ^ 16 / 256 : Nat) : Int) := by
    rw [Int.fdiv_eq_ediv_of_nonneg _ (by decide)]; rfl
  rw [e1, w8_nat]
  have : m % 2 ^ 16 / 256 % 256 = m / 256 % 2 ^ 8 := by omega
  rw [this]

theorem mod_step (w a k : Nat) : a % 2 ^ (w * (k + 1)) = a % 2 ^ (w * k) + 2 ^ (w * k) * (a / 2 ^ (w * k) % 2 ^ w) := by
  rw [Nat.mul_add, Nat.mul_one, Nat.pow_add, Nat.mod_mul]

/-- digits in their bounds -/
def InD (w : Nat) (l : List Int) : Prop := ∀ a ∈ l, 0 ≤ a ∧ a < ((2 ^ w : Nat) : Int)
theorem InD.nil (w : Nat) : InD w [] := fun a h => by cases h
theorem InD.cons {w : Nat} {a : Int} {l : List Int} (ha : 0 ≤ a ∧ a < ((2 ^ w : Nat) : Int)) (h : InD w l) : InD w (a :: l) := by
  intro b hb
  rcases List.mem_cons.1 hb with rfl | hb
  · exact ha
  · exact h b hb
theorem InD.head {w : Nat} {a : Int} {l : List Int} (h : InD w (a :: l)) : 0 ≤ a ∧ a < ((2 ^ w : Nat) : Int) := h a (.head _)
theorem InD.tail {w : Nat} {a : Int} {l : List Int} (h : InD w (a :: l)) : InD w l := fun b hb => h b (.tail _ hb)
theorem InD.dig (w x n : Nat) : InD w (digI w x n) := by
  intro a ha
  obtain ⟨i, _, rfl⟩ := List.mem_map.1 ha
  exact dg_nn w x i
theorem numI_lt {w : Nat} : ∀ {l : List Int}, InD w l → numI w l < 2 ^ (w * l.length)
  | [], _ => by simp [numI]
  | a :: l, h => by
    have ih := numI_lt h.tail
    have ha := h.head
    simp only [numI, List.length_cons]
    rw [show w * (l.length + 1) = w + w * l.length by rw [Nat.mul_add, Nat.mul_one, Nat.add_comm], Nat.pow_add]
    have h1 : a.toNat < 2 ^ w := by omega
    have h2 : 2 ^ w * (numI w l + 1) ≤ 2 ^ w * 2 ^ (w * l.length) := Nat.mul_le_mul_left _ ih
    rw [Nat.mul_add, Nat.mul_one] at h2
    omega

theorem subD_spec : ∀ {l m : List Int} {c : Int}, l.length = m.length → InD 16 l → InD 16 m → (c = 0 ∨ c = 1) →
    InD 16 (subD l m c) ∧ (subD l m c).length = l.length ∧ ∃ c' : Nat, (c' = 0 ∨ c' = 1) ∧ numI 16 l + 2 ^ (16 * l.length) * c' = numI 16 (subD l m c) + numI 16 m + c.toNat
  | [], [], c, _, _, _, hc => ⟨InD.nil 16, rfl, c.toNat, by rcases hc with rfl | rfl <;> simp, by simp [numI, subD]⟩
  | a :: l, b :: m, c, hlen, hl, hm, hc => by
    have ha := hl.head
    have hb := hm.head
    simp only [show ((2 ^ 16 : Nat) : Int) = 65536 from rfl] at ha hb
    have hx : wu (wu (wu (a + 65536) - b) - c) = a + 65536 - b - c := by
      have h1 : wu (a + 65536) = a + 65536 := wu_id (by omega) (by omega)
      have h2 : wu (a + 65536 - b) = a + 65536 - b := wu_id (by omega) (by omega)
      rw [h1, h2]
      exact wu_id (by rcases hc with rfl | rfl <;> omega) (by rcases hc with rfl | rfl <;> omega)
    simp only [subD, hx]
    generalize hX : a + 65536 - b - c = X
    have hX0 : 0 ≤ X ∧ X < 131072 := by rcases hc with rfl | rfl <;> omega
    have e1 : X.tmod 65536 = X % 65536 := Int.tmod_eq_emod_of_nonneg hX0.1
    have e2 : X.tdiv 65536 = X / 65536 := Int.tdiv_eq_ediv_of_nonneg hX0.1
    have e3 : wu (X / 65536) = X / 65536 := wu_id (by omega) (by omega)
    have e4 : wu (1 - X / 65536) = 1 - X / 65536 := wu_id (by omega) (by omega)
    rw [e1, e2, e3, e4]
    obtain ⟨i1, i2, c', i3, i4⟩ := subD_spec (l := l) (m := m) (c := 1 - X / 65536) (by simpa using hlen) hl.tail hm.tail (by omega)
    refine ⟨InD.cons (by simp only [show ((2 ^ 16 : Nat) : Int) = 65536 from rfl]; omega) i1, by simp [i2], c', i3, ?_⟩
    simp only [numI, List.length_cons]
    rw [show 16 * (l.length + 1) = 16 + 16 * l.length by omega, Nat.pow_add]
    have hm16 : (2 : Nat) ^ 16 = 65536 := rfl
    rw [hm16, Nat.mul_assoc]
    generalize 2 ^ (16 * l.length) * c' = Q at *
    generalize numI 16 (subD l m (1 - X / 65536)) = R at *
    omega

theorem digI_of {w n N : Nat} {l : List Int} (hl : l.length = n) (hd : InD w l) (h : numI w l = N % 2 ^ (w * n)) : l = digI w N n := by
  rw [← digI_mod, ← h, ← hl]
  exact (digI_numI hd).symm

end Eng
namespace Go.Proofs.Ytahkpabndfaoiaa
open Eng Go Go.RowKit Go.Proofs Ec

def specROf : FnSpec := spec1 dK fun n => (.pv (numP n), [])
theorem rof_ok : SpecOK Try.prog 41 specROf :=
  spec1_ok Try.func41 (by decide +kernel) (by kernel_rfl) (tableOK_nil _) mixed (by kernel_rfl) fun n _ => by
    refine ⟨_, _, _, rof_x n, trivial, intsS_val _ _, ?_⟩
    have : ((List.range 16).map fun i => wu (wu (dg 8 n (2 * i)) + wu (256 * wu (dg 8 n (2 * i + 1))))) = digI 16 n 16 := by
      refine List.map_congr_left fun i _ => ?_
      have h1 := dg8_lt n (2 * i)
      have h2 := dg8_lt n (2 * i + 1)
      rw [wu_id h1.1 (by omega), wu_id h2.1 (by omega), wu_id (x := 256 * _) (by omega) (by omega), wu_id (by omega) (by omega), dg16_8]
    rw [this]
    exact numP_val n

def specRBytes : FnSpec := spec1 dN fun n => (.pv (keyP n), [])
theorem two_by_two (f : Nat → Int) : (List.range 16).flatMap (fun i => [f (2 * i), f (2 * i + 1)]) = (List.range 32).map f := rfl
theorem rbytes_ok : SpecOK Try.prog 10 specRBytes :=
  spec1_ok Try.func10 (by decide +kernel) (by kernel_rfl) (tableOK_nil _) mixed (by kernel_rfl) fun n _ => by
    refine ⟨_, _, _, rbytes_x n, trivial, intsS_val _ _, ?_⟩
    have : ((List.range 16).flatMap fun i => [IntKind.wrap .u8 (dg 16 n i), IntKind.wrap .u8 ((dg 16 n i).fdiv (2 ^ 8))]) = digI 8 n 32 := by
      simp only [byte_lo, byte_hi]
      exact two_by_two (dg 8 n)
    rw [this]
    exact keyP_val n

theorem lessX_is (a b : Nat) : ∀ k, lessX a b k = some (.pv (bo (decide (a % 2 ^ (16 * k) < b % 2 ^ (16 * k)))), [])
  | 0 => by simp [lessX, Nat.mod_one]
  | k + 1 => by
    unfold lessX
    rw [lessX_is a b k, mod_step 16 a k, mod_step 16 b k]
    have ha : a % 2 ^ (16 * k) < 2 ^ (16 * k) := Nat.mod_lt _ (Nat.two_pow_pos _)
    have hb : b % 2 ^ (16 * k) < 2 ^ (16 * k) := Nat.mod_lt _ (Nat.two_pow_pos _)
    have e1 : dg 16 a k = ((a / 2 ^ (16 * k) % 2 ^ 16 : Nat) : Int) := rfl
    have e2 : dg 16 b k = ((b / 2 ^ (16 * k) % 2 ^ 16 : Nat) : Int) := rfl
    rw [e1, e2]
    generalize a / 2 ^ (16 * k) % 2 ^ 16 = x
    generalize b / 2 ^ (16 * k) % 2 ^ 16 = y
    generalize 2 ^ (16 * k) = q at *
    generalize a % q = u at *
    generalize b % q = v at *
    rcases Nat.lt_trichotomy x y with h | h | h
    · have h1 : ((x : Int) != (y : Int)) = true := by simp; omega
      rw [h1, cond_true]
      have h2 : q * (x + 1) ≤ q * y := Nat.mul_le_mul_left _ h
      rw [Nat.mul_add, Nat.mul_one] at h2
      have h3 : decide ((x : Int) < y) = decide (u + q * x < v + q * y) := decide_eq_decide.2 ⟨fun _ => by omega, fun _ => by omega⟩
      rw [h3]
    · subst h
      have h1 : ((x : Int) != (x : Int)) = false := by simp
      rw [h1, cond_false]
      have h3 : decide (u < v) = decide (u + q * x < v + q * x) := decide_eq_decide.2 ⟨fun _ => by omega, fun _ => by omega⟩
      rw [h3]
    · have h1 : ((x : Int) != (y : Int)) = true := by simp; omega
      rw [h1, cond_true]
      have h2 : q * (y + 1) ≤ q * x := Nat.mul_le_mul_left _ h
      rw [Nat.mul_add, Nat.mul_one] at h2
      have h3 : decide ((x : Int) < y) = decide (u + q * x < v + q * y) := decide_eq_decide.2 ⟨fun _ => by omega, fun _ => by omega⟩
      rw [h3]
def specRLess : FnSpec := spec2 dN dN fun a b => (.pv (bo (decide (a % 2 ^ 256 < b % 2 ^ 256))), [])
theorem rless_ok : SpecOK Try.prog 60 specRLess :=
  spec2_ok Try.func60 (by decide +kernel) (by kernel_rfl) (tableOK_nil _) mixed (by kernel_rfl) fun a b _ =>
    ⟨_, _, _, (rless_x a b).trans (lessX_is a b 16), trivial, rfl, rfl⟩

def minusN (a b : Nat) : Nat := a % 2 ^ 256 + 2 ^ 256 - b % 2 ^ 256
def specRMinus : FnSpec := spec2 dN dN fun a b => (.pv (numP (minusN a b)), [])
theorem minus_dig (a b : Nat) : subD (digI 16 a 16) (digI 16 b 16) 0 = digI 16 (minusN a b) 16 := by
  obtain ⟨h1, h2, c', h3, h4⟩ := subD_spec (l := digI 16 a 16) (m := digI 16 b 16) (c := 0) (by simp [digI_length]) (InD.dig _ _ _) (InD.dig _ _ _) (.inl rfl)
  rw [digI_length] at h2 h4
  refine digI_of h2 h1 ?_
  rw [numI_digI, numI_digI] at h4
  have hlt := numI_lt h1
  rw [h2] at hlt
  unfold minusN
  have hb : b % 2 ^ (16 * 16) < 2 ^ (16 * 16) := Nat.mod_lt _ (Nat.two_pow_pos _)
  have ha : a % 2 ^ (16 * 16) < 2 ^ (16 * 16) := Nat.mod_lt _ (Nat.two_pow_pos _)
  have e : (2 : Nat) ^ (16 * 16) = 2 ^ 256 := rfl
  rw [e] at *
  simp only [Int.toNat_zero, Nat.add_zero] at h4
  generalize a % 2 ^ 256 = x at *
  generalize b % 2 ^ 256 = y at *
  generalize numI 16 (subD (digI 16 a 16) (digI 16 b 16) 0) = z at *
  rcases h3 with rfl | rfl
  · have : x + 2 ^ 256 - y = z + 2 ^ 256 := by omega
    rw [this, Nat.add_mod_right, Nat.mod_eq_of_lt hlt]
  · have : x + 2 ^ 256 - y = z := by omega
    rw [this, Nat.mod_eq_of_lt hlt]
theorem rminus_ok : SpecOK Try.prog 75 specRMinus :=
  spec2_ok Try.func75 (by decide +kernel) (by kernel_rfl) (tableOK_nil _) mixed (by kernel_rfl) fun a b _ => by
    refine ⟨_, _, _, rminus_x a b, trivial, intsS_val _ _, ?_⟩
    rw [minus_dig]
    exact numP_val _

theorem rprime_ok : SpecOK Try.prog 61 (spec0 (.pv (numP Ec.P))) :=
  spec0_ok (n := 3000) Try.func61 (by decide +kernel) (by kernel_rfl) (tableOK_nil _) mixed ⟨_, _, _, rprime_x, trivial, intsS_val _ _, numP_val _⟩
theorem order_ok : SpecOK Try.prog 11 (spec0 (.pv (numP Ec.L))) :=
  spec0_ok (n := 30000) Try.func11 (by decide +kernel) (by kernel_rfl) (tableOK_nil _) mixed ⟨_, _, _, order_x, trivial, intsS_val _ _, numP_val _⟩

def specRSmall : FnSpec := spec1 (dI .u64) fun x => (.pv (numP x.toNat), [Fw.W x])
theorem rsmall_ok : SpecOK Try.prog 48 specRSmall :=
  spec1_ok Try.func48 (by decide +kernel) (by kernel_rfl) (tableOK_nil _) mixed (by kernel_rfl) fun x hx => by
    have hw : Fw.W x := hx.1
    refine ⟨_, _, _, rsmall_x x, trivial, intsS_val _ _, ?_⟩
    have : ((List.range 4).map fun i => Fw.andI (x.fdiv (2 ^ (min (16 * i) 64))) 65535) ++ List.replicate 12 0 = digI 16 x.toNat 16 := by
      have hr : digI 16 x.toNat 16 = (List.range 4).map (dg 16 x.toNat) ++ (List.range 12).map fun i => dg 16 x.toNat (i + 4) := by
        unfold digI
        rw [show List.range 16 = List.range 4 ++ (List.range 12).map (fun i => i + 4) from by decide, List.map_append, List.map_map]
        rfl
      rw [hr]
      have hxn : ((x.toNat : Nat) : Int) = x := Int.toNat_of_nonneg hw.1
      have hlt : x.toNat < 2 ^ 64 := by unfold Fw.W at hw; omega
      congr 1
      · refine List.map_congr_left fun i hi => ?_
        have hi := List.mem_range.1 hi
        have e1 : x.fdiv (2 ^ (min (16 * i) 64)) = ((x.toNat / 2 ^ (16 * i) : Nat) : Int) := by
          rw [Nat.min_eq_left (by omega), Int.fdiv_eq_ediv_of_nonneg _ (Int.pow_nonneg (by decide)), ← Fw.pow_cast, Int.natCast_ediv, hxn]
        have hm : x.toNat / 2 ^ (16 * i) < 2 ^ 64 := Nat.lt_of_le_of_lt (Nat.div_le_self _ _) hlt
        rw [e1]
        have := Fw.and_low (a := ((x.toNat / 2 ^ (16 * i) : Nat) : Int)) ⟨Int.natCast_nonneg _, by omega⟩ 16 (by decide)
        refine Eq.trans this ?_
        unfold dg
        rw [Int.natCast_emod]
      · have : (List.range 12).map (fun i => dg 16 x.toNat (i + 4)) = (List.range 12).map fun _ => 0 := by
          refine List.map_congr_left fun i hi => ?_
          unfold dg
          have : x.toNat / 2 ^ (16 * (i + 4)) = 0 := Nat.div_eq_of_lt (Nat.lt_of_lt_of_le hlt (Nat.pow_le_pow_right (by decide) (by omega)))
          rw [this]
          rfl
        rw [this]
        rfl
    rw [this]
    exact numP_val _

end Go.Proofs.Ytahkpabndfaoiaa

/- The reference's bits of bytes, the highest first. -/
namespace Go.Proofs.Ytahkpabndfaoiaa
open Eng Go Go.RowKit Go.Proofs

def nilS : SV := .pv (.one (.val (.slice none 0 0)))
def hiTm (s3 : SV) (l : List Int) (i : Int) : List SV := [.pv (.one (.sli 0 0 0 l.length none true)), .any, .any, s3, .pv (iv i)] ++ List.replicate 24 .any
def hiHp (l : List Int) (e : TypeId) (b3 : List Blk) : Heap := [[⟨[.arr .u8 l], e, .ro⟩], [], [], b3] ++ List.replicate 25 []
def hiS0 (l : List Int) (e : TypeId) (i : Int) : St := ⟨hiTm nilS l i, hiHp l e []⟩
def hiS (l : List Int) (e : TypeId) (acc : List Int) (n : Nat) (i : Int) : St := ⟨hiTm (.pv (.one (.sli 3 0 0 n none true))) l i, hiHp l e [⟨[.arr .u8 acc], 5, .sl⟩]⟩
noncomputable abbrev hiF : Func := Try.f72
noncomputable abbrev hiT : Table := lookT []
def hiTd0 : Td := ⟨[0, 3, 4], [], []⟩
def hiTd : Td := ⟨[0, 3, 4], [3], [26]⟩
def wi (x : Int) : Int := IntKind.wrap .i64 x
def bitE (l : List Int) (i : Int) (k : Nat) : Int := ((l.getD (0 + i.toNat * 1) 0).fdiv (2 ^ k)).tmod 2
theorem hi_first (l : List Int) (e : TypeId) : runS Try.prog hiT hiF 1 hiTd0 300 [.code (bodyOf hiF)] (startA hiF.ntmps .u8 l e .ro) =
    some (.at (.code (.loop (hd hiF).1) :: (hd hiF).2) (hiS0 l e (wi (l.length - 1))), []) := by kernel_rfl
def hiO (l : List Int) (i : Int) : List Prop := [idxOk i l.length = true, Nat.blt (0 + i.toNat * 1) l.length = true]
theorem hi_round0 (l : List Int) (e : TypeId) (i : Int) : runS Try.prog hiT hiF 1 hiTd 3000 (.code (hd hiF).1 :: .lp (hd hiF).1 :: (hd hiF).2) (hiS0 l e i) =
    cond (decide (i ≥ 0)) (some (.at (.lp (hd hiF).1 :: (hd hiF).2) (hiS l e [bitE l i 7, bitE l i 6, bitE l i 5, bitE l i 4, bitE l i 3, bitE l i 2, bitE l i 1, bitE l i 0] 8 (wi (i - 1))),
      hiO l i ++ (hiO l i ++ (hiO l i ++ (hiO l i ++ (hiO l i ++ (hiO l i ++ (hiO l i ++ hiO l i))))))))
     (some (.out (.val nilS), [])) := by kernel_rfl

/-- the acc behind so many bits, and its length -/
def hiA (l : List Int) (i : Int) (acc : List Int) : Nat → List Int
  | 0 => acc
  | k + 1 => hiA l i acc k ++ [bitE l i (7 - k)]
def hiN (n : Nat) : Nat → Nat
  | 0 => n
  | k + 1 => hiN n k + 1
def hiOb (l : List Int) (i : Int) (acc : List Int) (n k : Nat) : List Prop :=
  hiO l i ++ [Nat.beq (hiN n k) (widS [.arr .u8 (hiA l i acc k)]) = true, (Nat.ble 1 (hiN n k + 1) && Nat.ble (hiN n k + 1) limN) = true]
theorem hi_round (l : List Int) (e : TypeId) (acc : List Int) (n : Nat) (i : Int) : runS Try.prog hiT hiF 1 hiTd 3000 (.code (hd hiF).1 :: .lp (hd hiF).1 :: (hd hiF).2) (hiS l e acc n i) =
    cond (decide (i ≥ 0)) (some (.at (.lp (hd hiF).1 :: (hd hiF).2) (hiS l e (hiA l i acc 8) (hiN n 8) (wi (i - 1))),
      hiOb l i acc n 7 ++ (hiOb l i acc n 6 ++ (hiOb l i acc n 5 ++ (hiOb l i acc n 4 ++ (hiOb l i acc n 3 ++ (hiOb l i acc n 2 ++ (hiOb l i acc n 1 ++ hiOb l i acc n 0))))))))
     (some (.out (.row 5 [.arr .u8 acc]), [Nat.beq n (widS [.arr .u8 acc]) = true])) := by kernel_rfl

theorem wi_id {x : Int} (h : -1 ≤ x) (h' : x < 9223372036854775807) : wi x = x := by
  unfold wi
  rw [IntKind.wrap_i64]
  omega

/-- the bits of so many bytes, from the last one on -/
def hiUp (l : List Int) : Nat → List Int
  | 0 => []
  | j + 1 => hiA l ((l.length : Int) - 1 - j) (hiUp l j) 8
theorem hiA_len (l : List Int) (i : Int) (acc : List Int) : ∀ k, (hiA l i acc k).length = acc.length + k
  | 0 => rfl
  | k + 1 => by simp [hiA, hiA_len l i acc k]; omega
theorem hiN_eq (n : Nat) : ∀ k, hiN n k = n + k
  | 0 => rfl
  | k + 1 => by simp [hiN, hiN_eq n k]; omega
theorem hiUp_len (l : List Int) : ∀ j, (hiUp l j).length = 8 * j
  | 0 => rfl
  | j + 1 => by simp [hiUp, hiA_len, hiUp_len l j]; omega

theorem hiO_ok {l : List Int} {i : Int} (h0 : 0 ≤ i) (h1 : i < l.length) : AllP (hiO l i) := by
  refine ⟨by simp [idxOk, h0, h1], ?_, trivial⟩
  rw [Nat.blt_eq]
  omega
theorem AllP_app : ∀ {a b : List Prop}, AllP a → AllP b → AllP (a ++ b)
  | [], _, _, h => h
  | _ :: _, _, ⟨h1, h2⟩, h => ⟨h1, AllP_app h2 h⟩
theorem hiOb_ok {l acc : List Int} {i : Int} {n k : Nat} (h0 : 0 ≤ i) (h1 : i < l.length) (hn : n = acc.length) (hb : n + k + 1 ≤ limN) : AllP (hiOb l i acc n k) := by
  refine AllP_app (hiO_ok h0 h1) ⟨?_, ?_, trivial⟩
  · rw [hiN_eq]
    have : widS [.arr .u8 (hiA l i acc k)] = n + k := by simp [widS, wid, hiA_len, hn]
    rw [this]
    exact Nat.beq_refl _
  · rw [hiN_eq, Nat.ble_eq_true_of_le (show 1 ≤ n + k + 1 by omega), Nat.ble_eq_true_of_le hb]
    rfl

def highF (l : List Int) : List Int := hiUp l l.length
theorem hi_loop (l : List Int) (e : TypeId) (hl : l.length ≤ 1048576) : ∀ d j, l.length - j = d → j ≤ l.length →
    Goes Try.prog hiT hiF (OutIs (.row 5 [.arr .u8 (highF l)])) (.lp (hd hiF).1 :: (hd hiF).2) (hiS l e (hiUp l j) (8 * j) ((l.length : Int) - 1 - j)) := by
  intro d
  induction d with
  | zero =>
    intro j hd hj
    have hjl : j = l.length := by omega
    subst hjl
    refine .lp (.out 1 hiTd 3000 ((hi_round l e _ _ _).trans ?_) (ob := [Nat.beq (8 * l.length) (widS [.arr .u8 (hiUp l l.length)]) = true]) ?_ (o := .row 5 [.arr .u8 (hiUp l l.length)]) ?_)
    · rw [show decide ((l.length : Int) - 1 - l.length ≥ 0) = false from decide_eq_false (by omega)]
      rfl
    · refine ⟨?_, trivial⟩
      have : widS [.arr .u8 (hiUp l l.length)] = 8 * l.length := by simp [widS, wid, hiUp_len]
      rw [this]
      exact Nat.beq_refl _
    · exact ⟨rfl, _, rfl, rfl⟩
  | succ d ih =>
    intro j hd hj
    have hlt : j < l.length := by omega
    have hi0 : 0 ≤ (l.length : Int) - 1 - j := by omega
    have hi1 : (l.length : Int) - 1 - j < l.length := by omega
    have hr := hi_round l e (hiUp l j) (8 * j) ((l.length : Int) - 1 - j)
    rw [show decide ((l.length : Int) - 1 - j ≥ 0) = true from decide_eq_true hi0, cond_true, wi_id (by omega) (by omega)] at hr
    have hw : hiN (8 * j) 8 = 8 * (j + 1) := by rw [hiN_eq]; omega
    have hx : (l.length : Int) - 1 - j - 1 = (l.length : Int) - 1 - ((j + 1 : Nat) : Int) := by omega
    rw [hw, hx] at hr
    have ho : ∀ k, k < 8 → AllP (hiOb l ((l.length : Int) - 1 - j) (hiUp l j) (8 * j) k) := fun k hk => hiOb_ok hi0 hi1 (hiUp_len l j).symm (by unfold limN; omega)
    exact .lp (.at 1 hiTd 3000 hr (AllP_app (ho 7 (by decide)) (AllP_app (ho 6 (by decide)) (AllP_app (ho 5 (by decide)) (AllP_app (ho 4 (by decide)) (AllP_app (ho 3 (by decide)) (AllP_app (ho 2 (by decide)) (AllP_app (ho 1 (by decide)) (ho 0 (by decide))))))))) (ih (j + 1) (by omega) (by omega)))

def hiPre (l : List Int) : List Prop := [0 < l.length ∧ l.length ≤ 1048576]
def spHigh : SlSpec := spA .u8 .read (fun l => .row 5 [.arr .u8 (highF l)]) hiPre
theorem high_ok : SlOK Try.prog 72 spHigh :=
  spA_read (tableOK_nil _) mixed (fn := hiF) Try.func72 (by decide +kernel) (by kernel_rfl) (by kernel_rfl) fun l e hp => by
    obtain ⟨⟨h0, hl⟩, _⟩ := hp
    refine .at 1 hiTd0 300 (hi_first l e) trivial (.loop ?_)
    have hi0 : 0 ≤ (l.length : Int) - 1 := by omega
    have hi1 : (l.length : Int) - 1 < l.length := by omega
    have hw : wi ((l.length : Int) - 1) = (l.length : Int) - 1 := wi_id (by omega) (by omega)
    rw [hw]
    have hr := hi_round0 l e ((l.length : Int) - 1)
    rw [show decide ((l.length : Int) - 1 ≥ 0) = true from decide_eq_true hi0, cond_true, wi_id (by omega) (by omega)] at hr
    have ho := hiO_ok hi0 hi1
    refine .at 1 hiTd 3000 hr (AllP_app ho (AllP_app ho (AllP_app ho (AllP_app ho (AllP_app ho (AllP_app ho (AllP_app ho ho))))))) ?_
    have hg := hi_loop l e hl (l.length - 1) 1 rfl (by omega)
    have hz : hiUp l 1 = [bitE l ((l.length : Int) - 1) 7, bitE l ((l.length : Int) - 1) 6, bitE l ((l.length : Int) - 1) 5, bitE l ((l.length : Int) - 1) 4, bitE l ((l.length : Int) - 1) 3, bitE l ((l.length : Int) - 1) 2, bitE l ((l.length : Int) - 1) 1, bitE l ((l.length : Int) - 1) 0] := by
      simp [hiUp, hiA]
    rw [hz] at hg
    exact hg

end Go.Proofs.Ytahkpabndfaoiaa

/- The reference's number of bits, modulo the group's order. -/
namespace Eng
open Go Go.RowKit
def dblD : List Int → Int → List Int
  | [], _ => []
  | a :: l, c =>
    let x := wu (wu (2 * a) + c)
    x.tmod 65536 :: dblD l (wu (x.tdiv 65536))
end Eng
namespace Go.Proofs.Ytahkpabndfaoiaa
open Eng Go Go.RowKit Go.Proofs

/-- comparison, difference, the order, with nothing known of them -/
structure ROps where
  less : Nat → Nat → Bool
  minus : Nat → Nat → Nat
  ord : Nat
  prime : Nat
def T10 (o : ROps) : List (FuncId × FnSpec) := [
  (60, spec2 dN dN fun a b => (.pv (bo (o.less a b)), [])),
  (75, spec2 dN dN fun a b => (.pv (numP (o.minus a b)), [])),
  (11, spec0 (.pv (numP o.ord))),
  (61, spec0 (.pv (numP o.prime))),
  (41, specROf),
  (10, specRBytes),
  (48, specRSmall)]
def rops : ROps where
  less a b := decide (a % 2 ^ 256 < b % 2 ^ 256)
  minus := minusN
  ord := Ec.L
  prime := Ec.P
theorem rops_less (a b : Nat) : rops.less a b = decide (a % 2 ^ 256 < b % 2 ^ 256) := rfl
theorem rops_minus (a b : Nat) : rops.minus a b = a % 2 ^ 256 + 2 ^ 256 - b % 2 ^ 256 := rfl
theorem rops_ord : rops.ord = Ec.L := rfl
theorem rops_prime : rops.prime = Ec.P := rfl
theorem T10_ok : TableOK Try.prog (lookT (T10 rops)) :=
  tableOK_cons rless_ok (tableOK_cons rminus_ok (tableOK_cons order_ok (tableOK_cons rprime_ok (tableOK_cons rof_ok (tableOK_cons rbytes_ok (tableOK_cons rsmall_ok (tableOK_nil _)))))))

def zero16 : List Cell := intsC .u64 (List.replicate 16 0)
def btTm (l : List Int) (i : Int) : List SV := [.pv (.one (.sli 0 0 0 l.length none true)), .any, .pv (.one (.ptr 2 0 0)), .pv (.one (.ptr 3 0 0)), .pv (.one (.ptr 4 0 0)), .pv (iv i)] ++ List.replicate 39 .any
def btHp (l : List Int) (e : TypeId) (c3 : List Cell) (q : Nat) : Heap := [[⟨[.arr .u8 l], e, .ro⟩], [], [⟨zero16, 32, .var⟩], [⟨c3, 32, .var⟩], [⟨[.dig .u64 16 q 16], 32, .var⟩]] ++ List.replicate 40 []
def btS (l : List Int) (e : TypeId) (c3 : List Cell) (q : Nat) (i : Int) : St := ⟨btTm l i, btHp l e c3 q⟩
noncomputable abbrev btF : Func := Try.f71
def btTd : Td := ⟨[0, 2, 3, 4, 5], [], []⟩
theorem bt_first (o : ROps) (l : List Int) (e : TypeId) : runS Try.prog (lookT (T10 o)) btF 1 btTd 300 [.code (bodyOf btF)] (startA btF.ntmps .u8 l e .ro) =
    some (.at (.code (.loop (hd btF).1) :: (hd btF).2) (btS l e zero16 o.ord 0), []) := by kernel_rfl
def btD (l : List Int) (R : Nat) (i : Int) : List Int := dblD (digI 16 R 16) (wu (l.getD (0 + i.toNat * 1) 0))
theorem bt_round (o : ROps) (l : List Int) (e : TypeId) (R : Nat) (i : Int) : runS Try.prog (lookT (T10 o)) btF 1 btTd 3000 (.code (hd btF).1 :: .lp (hd btF).1 :: (hd btF).2) (btS l e [.dig .u64 16 R 16] o.ord i) =
    cond (decide (i < l.length)) (cond (!o.less (numI 16 (btD l R i)) o.ord)
      (some (.at (.lp (hd btF).1 :: (hd btF).2) (btS l e [.dig .u64 16 (o.minus (numI 16 (btD l R i)) o.ord) 16] o.ord (wi (i + 1))), [∀ a ∈ btD l R i, 0 ≤ a ∧ a < 65536, ∀ a ∈ btD l R i, 0 ≤ a ∧ a < 65536, idxOk i l.length = true, Nat.blt (0 + i.toNat * 1) l.length = true]))
      (some (.at (.lp (hd btF).1 :: (hd btF).2) (btS l e (intsC .u64 (btD l R i)) o.ord (wi (i + 1))), [∀ a ∈ btD l R i, 0 ≤ a ∧ a < 65536, idxOk i l.length = true, Nat.blt (0 + i.toNat * 1) l.length = true])))
      (some (.out (.val (.pv (numP R))), [])) := by kernel_rfl

theorem dblD_spec : ∀ {l : List Int} {c : Int}, InD 16 l → (c = 0 ∨ c = 1) →
    InD 16 (dblD l c) ∧ (dblD l c).length = l.length ∧ ∃ c' : Nat, (c' = 0 ∨ c' = 1) ∧ numI 16 (dblD l c) + 2 ^ (16 * l.length) * c' = 2 * numI 16 l + c.toNat
  | [], c, _, hc => ⟨InD.nil 16, rfl, c.toNat, by rcases hc with rfl | rfl <;> simp, by simp [numI, dblD]⟩
  | a :: l, c, hl, hc => by
    have ha := hl.head
    simp only [show ((2 ^ 16 : Nat) : Int) = 65536 from rfl] at ha
    have hx : wu (wu (2 * a) + c) = 2 * a + c := by
      have h1 : wu (2 * a) = 2 * a := wu_id (by omega) (by omega)
      rw [h1]
      exact wu_id (by rcases hc with rfl | rfl <;> omega) (by rcases hc with rfl | rfl <;> omega)
    simp only [dblD, hx]
    generalize hX : 2 * a + c = X
    have hX0 : 0 ≤ X ∧ X < 131072 := by rcases hc with rfl | rfl <;> omega
    have e1 : X.tmod 65536 = X % 65536 := Int.tmod_eq_emod_of_nonneg hX0.1
    have e2 : X.tdiv 65536 = X / 65536 := Int.tdiv_eq_ediv_of_nonneg hX0.1
    have e3 : wu (X / 65536) = X / 65536 := wu_id (by omega) (by omega)
    rw [e1, e2, e3]
    obtain ⟨i1, i2, c', i3, i4⟩ := dblD_spec (l := l) (c := X / 65536) hl.tail (by omega)
    refine ⟨InD.cons (by simp only [show ((2 ^ 16 : Nat) : Int) = 65536 from rfl]; omega) i1, by simp [i2], c', i3, ?_⟩
    simp only [numI, List.length_cons]
    rw [show 16 * (l.length + 1) = 16 + 16 * l.length by omega, Nat.pow_add]
    have hm16 : (2 : Nat) ^ 16 = 65536 := rfl
    rw [hm16, Nat.mul_assoc]
    generalize 2 ^ (16 * l.length) * c' = Q at *
    generalize numI 16 (dblD l (X / 65536)) = R at *
    omega

theorem minus_mod {x n m : Nat} (h : x < m) (hn : n < m) (hx : n ≤ x) : (x % m + m - n % m) % m = (x - n) % m := by
  rw [Nat.mod_eq_of_lt h, Nat.mod_eq_of_lt hn]
  have : x + m - n = x - n + m := by omega
  rw [this, Nat.add_mod_right]

def bitG (n R : Nat) (b : Int) : Nat := cond (decide (2 * R + b.toNat < n)) (2 * R + b.toNat) (2 * R + b.toNat - n)
theorem bitG_lt {n R : Nat} {b : Int} (h : R < n) (hb : 0 ≤ b ∧ b < 2) : bitG n R b < n := by
  unfold bitG
  by_cases hx : 2 * R + b.toNat < n
  · rw [decide_eq_true hx]; exact hx
  · rw [decide_eq_false hx]
    simp only [cond_false]
    omega
theorem bitG_mod {n R : Nat} {b : Int} (h : R < n) (hb : 0 ≤ b ∧ b < 2) : bitG n R b = (2 * R + b.toNat) % n := by
  unfold bitG
  by_cases hx : 2 * R + b.toNat < n
  · rw [decide_eq_true hx, Nat.mod_eq_of_lt hx]; rfl
  · rw [decide_eq_false hx]
    simp only [cond_false]
    have : 2 * R + b.toNat - n < n := by omega
    rw [← Nat.mod_eq_of_lt this, ← Nat.mod_eq_sub_mod (by omega)]
theorem bitG_step {n R m y : Nat} {b : Int} (hx : 2 * R + b.toNat < m) (hn : n < m) : (decide (2 * R + b.toNat < n) = true → bitG n R b = 2 * R + b.toNat) ∧
    (decide (2 * R + b.toNat < n) = false → (2 * R + b.toNat) % m + m - n % m = y → y % m = bitG n R b % m) := by
  unfold bitG
  refine ⟨fun h => by rw [h]; rfl, fun h hy => ?_⟩
  rw [h, cond_false, ← hy]
  exact minus_mod hx hn (by simpa using h)
def bitN (R : Nat) (b : Int) : Nat := bitG Ec.L R b
def bitsN (l : List Int) : Nat := l.foldl bitN 0
theorem L_pos : 0 < Ec.L := by decide
theorem L_lt : Ec.L < 2 ^ 253 := by decide
theorem bitN_lt {R : Nat} {b : Int} (h : R < Ec.L) (hb : 0 ≤ b ∧ b < 2) : bitN R b < Ec.L := bitG_lt h hb
theorem bitN_mod {R : Nat} {b : Int} (h : R < Ec.L) (hb : 0 ≤ b ∧ b < 2) : bitN R b = (2 * R + b.toNat) % Ec.L := bitG_mod h hb
theorem lt_mod {x n m : Nat} (h : x < m) (hn : n < m) : decide (x % m < n % m) = decide (x < n) := decide_eq_decide.2 (by rw [Nat.mod_eq_of_lt h, Nat.mod_eq_of_lt hn])
theorem btD_num {l : List Int} {R : Nat} {i : Nat} (hR : R < Ec.L) (hi : i < l.length) (hl : ∀ a ∈ l, 0 ≤ a ∧ a < 2) :
    InD 16 (btD l R i) ∧ (btD l R i).length = 16 ∧ numI 16 (btD l R i) = 2 * R + l[i].toNat := by
  have ha : 0 ≤ l[i] ∧ l[i] < 2 := hl _ (List.getElem_mem hi)
  have hg : l.getD (0 + (i : Int).toNat * 1) 0 = l[i] := by
    have : 0 + (i : Int).toNat * 1 = i := by omega
    rw [this]
    simp [List.getD, List.getElem?_eq_getElem hi]
  unfold btD
  rw [hg, wu_id ha.1 (by omega)]
  obtain ⟨h1, h2, c', h3, h4⟩ := dblD_spec (l := digI 16 R 16) (c := l[i]) (InD.dig _ _ _) (by omega)
  rw [digI_length] at h2 h4
  refine ⟨h1, h2, ?_⟩
  rw [numI_digI] at h4
  have hRl := L_lt
  have e : (2 : Nat) ^ (16 * 16) = 2 ^ 256 := rfl
  rw [e] at h4
  have hm : R % 2 ^ 256 = R := Nat.mod_eq_of_lt (by omega)
  rw [hm] at h4
  have hlt := numI_lt h1
  rw [h2] at hlt
  rcases h3 with rfl | rfl
  · omega
  · omega

theorem dig_mod_cells (ρ : Env) {a b : Nat} (h : a % 2 ^ 256 = b % 2 ^ 256) : denCs ρ [.dig .u64 16 a 16] = denCs ρ [.dig .u64 16 b 16] := by
  simp only [denCs, denC, digL_I]
  rw [← digI_mod 16 a 16, ← digI_mod 16 b 16]
  have e : (2 : Nat) ^ (16 * 16) = 2 ^ 256 := rfl
  rw [e, h]
theorem ints_cells (ρ : Env) {l : List Int} {N : Nat} (hl : l.length = 16) (hd : InD 16 l) (hN : numI 16 l = N) : denCs ρ (intsC .u64 l) = denCs ρ [.dig .u64 16 N 16] := by
  have : l = digI 16 N 16 := digI_of hl hd (by
    have := numI_lt hd
    rw [hl] at this
    rw [← hN, Nat.mod_eq_of_lt this])
  have h1 := denCs_ints ρ .u64 l
  unfold intsC
  rw [h1]
  simp only [denCs, denC, digL_I, List.append_nil]
  rw [← this]

theorem bits_take (l : List Int) (j : Nat) (hj : j < l.length) : bitsN (l.take (j + 1)) = bitN (bitsN (l.take j)) l[j] := by
  unfold bitsN
  rw [List.take_add_one, List.getElem?_eq_getElem hj, List.foldl_append]
  rfl
theorem bitsN_lt {l : List Int} (hl : ∀ a ∈ l, 0 ≤ a ∧ a < 2) : ∀ j, j ≤ l.length → bitsN (l.take j) < Ec.L
  | 0, _ => by simpa [bitsN] using L_pos
  | j + 1, hj => by
    rw [bits_take l j (by omega)]
    exact bitN_lt (bitsN_lt hl j (by omega)) (hl _ (List.getElem_mem _))

theorem bt_conv {k k' : List It} {st : St} {ob : List Prop} {l : List Int} {e : TypeId} {q y z : Nat} {i : Int} {R : SRes → Prop} (hr : runS Try.prog (lookT (T10 rops)) btF 1 btTd 3000 k st = some (.at (.lp (hd btF).1 :: k') (btS l e [.dig .u64 16 y 16] q i), ob)) (ho : AllP ob) (h : y % 2 ^ 256 = z % 2 ^ 256)
    (hn : Goes Try.prog (lookT (T10 rops)) btF R (.code (hd btF).1 :: .lp (hd btF).1 :: k') (btS l e [.dig .u64 16 z 16] q i)) : Goes Try.prog (lookT (T10 rops)) btF R k st :=
  .at 1 btTd 3000 hr ho (.cells 3 [.dig .u64 16 z 16] (fun ρ => dig_mod_cells ρ h) (.lp hn))
theorem bt_loop (l : List Int) (e : TypeId) (hlen : l.length ≤ 16777216) (hl : ∀ a ∈ l, 0 ≤ a ∧ a < 2) : ∀ d j, l.length - j = d → j ≤ l.length →
    Goes Try.prog (lookT (T10 rops)) btF (OutIs (.val (.pv (numP (bitsN l))))) (.code (hd btF).1 :: .lp (hd btF).1 :: (hd btF).2) (btS l e [.dig .u64 16 (bitsN (l.take j)) 16] Ec.L (j : Int)) := by
  intro d
  induction d with
  | zero =>
    intro j hd hj
    have hjl : j = l.length := by omega
    subst hjl
    have hr := bt_round rops l e (bitsN (l.take l.length)) (l.length : Int)
    rw [rops_ord] at hr
    rw [show decide ((l.length : Int) < l.length) = false from decide_eq_false (by omega), cond_false] at hr
    refine .out 1 btTd 3000 hr trivial ?_
    rw [List.take_length]
    exact ⟨numV (bitsN l), rfl, rfl⟩
  | succ d ih =>
    intro j hd hj
    have hlt : j < l.length := by omega
    have hRL := bitsN_lt hl j hj
    obtain ⟨b1, b2, b3⟩ := btD_num hRL hlt hl
    have hr := bt_round rops l e (bitsN (l.take j)) (j : Int)
    rw [show decide ((j : Int) < l.length) = true from decide_eq_true (by omega), cond_true, wi_id (by omega) (by omega)] at hr
    have hj1 : (j : Int) + 1 = ((j + 1 : Nat) : Int) := by omega
    rw [hj1] at hr
    have hn := ih (j + 1) (by omega) (by omega)
    rw [bits_take l j hlt] at hn
    have hb := hl _ (List.getElem_mem hlt)
    have o1 : ∀ a ∈ btD l (bitsN (l.take j)) (j : Int), 0 ≤ a ∧ a < 65536 := b1
    have o2 : idxOk (j : Int) l.length = true := by simp [idxOk]; omega
    have o3 : Nat.blt (0 + (j : Int).toNat * 1) l.length = true := by rw [Nat.blt_eq]; omega
    have hLl := L_lt
    have hx2 : 2 * bitsN (l.take j) + l[j].toNat < 2 ^ 256 := by omega
    have hL2 : Ec.L < 2 ^ 256 := by omega
    rw [rops_ord, rops_less, rops_minus, b3, lt_mod hx2 hL2] at hr
    obtain ⟨s1, s2⟩ := bitG_step (n := Ec.L) (R := bitsN (l.take j)) (m := 2 ^ 256) (y := (2 * bitsN (l.take j) + l[j].toNat) % 2 ^ 256 + 2 ^ 256 - Ec.L % 2 ^ 256) (b := l[j]) hx2 hL2
    have hz : bitN (bitsN (l.take j)) l[j] = bitG Ec.L (bitsN (l.take j)) l[j] := by unfold bitN; rfl
    rw [hz] at hn
    generalize bitG Ec.L (bitsN (l.take j)) l[j] = z at *
    generalize (2 * bitsN (l.take j) + l[j].toNat) % 2 ^ 256 + 2 ^ 256 - Ec.L % 2 ^ 256 = y at *
    generalize decide (2 * bitsN (l.take j) + l[j].toNat < Ec.L) = c at *
    cases c with
    | true =>
      simp only [Bool.not_true, cond_false] at hr
      exact .at 1 btTd 3000 hr ⟨o1, o2, o3, trivial⟩ (.cells 3 [.dig .u64 16 z 16] (fun ρ => ints_cells ρ b2 b1 (b3.trans (s1 rfl).symm)) (.lp hn))
    | false =>
      simp only [Bool.not_false, cond_true] at hr
      exact bt_conv hr ⟨o1, o1, o2, o3, trivial⟩ (s2 rfl rfl) hn

def btPre (l : List Int) : List Prop := [(∀ a ∈ l, 0 ≤ a ∧ a < 2) ∧ l.length ≤ 16777216]
def spBits : SlSpec := spA .u8 .read (fun l => .val (.pv (numP (bitsN l)))) btPre
theorem bits_ok : SlOK Try.prog 71 spBits :=
  spA_read T10_ok mixed (fn := btF) Try.func71 (by decide +kernel) (by kernel_rfl) (by kernel_rfl) fun l e hp => by
    obtain ⟨⟨hl, hlen⟩, _⟩ := hp
    have hf := bt_first rops l e
    rw [rops_ord] at hf
    refine .at 1 btTd 300 hf trivial (.loop ?_)
    have hg := bt_loop l e hlen hl l.length 0 rfl (by omega)
    refine .cells 3 [.dig .u64 16 0 16] (fun ρ => ?_) ?_
    · exact ints_cells ρ (l := List.replicate 16 0) rfl (fun a ha => by rw [List.eq_of_mem_replicate ha]; decide) (by decide)
    · exact hg

def maZ (c i : Nat) (d : List Int) : List Int := d.set i (wu (d.getD i 0 + dg 16 c i))
def maK (a b i k : Nat) (d : List Int) : List Int := d.set (i + k) (wu (d.getD (i + k) 0 + wu (dg 16 a i * dg 16 b k)))

end Go.Proofs.Ytahkpabndfaoiaa

/- Sums of digits: what the reference's products and bits come to. -/
namespace Go.Proofs.Ytahkpabndfaoiaa
open Eng Go Go.RowKit Go.Proofs

def valB (R : Nat) (m : List Int) : Nat := m.foldl (fun R b => 2 * R + b.toNat) R
theorem valB_app (R : Nat) (m : List Int) (b : Int) : valB R (m ++ [b]) = 2 * valB R m + b.toNat := by simp [valB]
theorem foldl_bitN {m : List Int} : ∀ {R x : Nat}, (∀ a ∈ m, 0 ≤ a ∧ a < 2) → R = x % Ec.L → m.foldl bitN R = valB x m % Ec.L := by
  induction m with
  | nil => intro R x _ h; exact h
  | cons b m ih =>
    intro R x hm h
    have hR : R < Ec.L := by rw [h]; exact Nat.mod_lt _ L_pos
    have hb := hm b (.head _)
    show m.foldl bitN (bitN R b) = valB (2 * x + b.toNat) m % Ec.L
    refine ih (fun a ha => hm a (.tail _ ha)) ?_
    rw [bitN_mod hR hb, h, Nat.add_mod, Nat.mul_mod, Nat.mod_mod, ← Nat.mul_mod, ← Nat.add_mod]
theorem bitsN_val {m : List Int} (hm : ∀ a ∈ m, 0 ≤ a ∧ a < 2) : bitsN m = valB 0 m % Ec.L := foldl_bitN hm (by rw [Nat.zero_mod])

theorem bitE_nat {l : List Int} {i k : Nat} {b : Nat} (h : l.getD i 0 = (b : Int)) : bitE l (i : Int) k = ((b / 2 ^ k % 2 : Nat) : Int) := by
  unfold bitE
  have : 0 + (i : Int).toNat * 1 = i := by omega
  rw [this, h, Int.fdiv_eq_ediv_of_nonneg _ (Int.pow_nonneg (by decide)), ← Fw.pow_cast, ← Int.natCast_ediv, Int.tmod_eq_emod_of_nonneg (Int.natCast_nonneg _), Int.natCast_emod]
  rfl
theorem hiA_val {l acc : List Int} {i b : Nat} (h : l.getD i 0 = (b : Int)) (hb : b < 256) : ∀ k, k ≤ 8 → valB 0 (hiA l i acc k) = 2 ^ k * valB 0 acc + b / 2 ^ (8 - k)
  | 0, _ => by
    have : b / 2 ^ (8 - 0) = 0 := Nat.div_eq_of_lt hb
    rw [this]
    simp [hiA]
  | k + 1, hk => by
    unfold hiA
    rw [valB_app, hiA_val h hb k (by omega), bitE_nat h, Int.toNat_natCast]
    have e1 : 8 - k = (7 - k) + 1 := by omega
    have e2 : 8 - (k + 1) = 7 - k := by omega
    rw [e1, e2, Nat.pow_succ, ← Nat.div_div_eq_div_mul]
    generalize b / 2 ^ (7 - k) = y
    rw [Nat.pow_succ, Nat.mul_comm (2 ^ k) 2, Nat.mul_assoc]
    generalize 2 ^ k * valB 0 acc = z
    omega
theorem hiA_bits {l acc : List Int} {i b : Nat} (h : l.getD i 0 = (b : Int)) (ha : ∀ a ∈ acc, 0 ≤ a ∧ a < 2) : ∀ k, ∀ a ∈ hiA l i acc k, 0 ≤ a ∧ a < 2
  | 0 => ha
  | k + 1 => by
    intro a hm
    unfold hiA at hm
    rcases List.mem_append.1 hm with h1 | h1
    · exact hiA_bits h ha k a h1
    · rw [List.mem_singleton.1 h1, bitE_nat h]
      omega

theorem numI_drop {w : Nat} {l : List Int} {i : Nat} (hi : i < l.length) : numI w (l.drop i) = l[i].toNat + 2 ^ w * numI w (l.drop (i + 1)) := by
  rw [List.drop_eq_getElem_cons hi]
  rfl

theorem hiUp_spec {l : List Int} (hl : ∀ a ∈ l, 0 ≤ a ∧ a < 256) : ∀ j, j ≤ l.length → valB 0 (hiUp l j) = numI 8 (l.drop (l.length - j)) ∧ ∀ a ∈ hiUp l j, 0 ≤ a ∧ a < 2
  | 0, _ => by
    rw [Nat.sub_zero, List.drop_length]
    exact ⟨rfl, fun a h => by cases h⟩
  | j + 1, hj => by
    obtain ⟨h1, h2⟩ := hiUp_spec hl j (by omega)
    have hi : l.length - (j + 1) < l.length := by omega
    have hb := hl _ (List.getElem_mem hi)
    have hg : l.getD (l.length - (j + 1)) 0 = ((l[l.length - (j + 1)].toNat : Nat) : Int) := by
      simp only [List.getD, List.getElem?_eq_getElem hi, Option.getD_some]
      omega
    have hx : (l.length : Int) - 1 - j = ((l.length - (j + 1) : Nat) : Int) := by omega
    unfold hiUp
    rw [hx]
    refine ⟨?_, hiA_bits hg h2 8⟩
    rw [hiA_val hg (by omega) 8 (by decide), h1, numI_drop hi]
    have : l.length - (j + 1) + 1 = l.length - j := by omega
    rw [this]
    show 256 * _ + _ / 1 = _ + 256 * _
    rw [Nat.div_one, Nat.add_comm]
theorem high_bits {l : List Int} (hl : ∀ a ∈ l, 0 ≤ a ∧ a < 256) : bitsN (highF l) = numI 8 l % Ec.L ∧ ∀ a ∈ highF l, 0 ≤ a ∧ a < 2 := by
  obtain ⟨h1, h2⟩ := hiUp_spec hl l.length (Nat.le_refl _)
  refine ⟨?_, h2⟩
  unfold highF
  rw [bitsN_val h2, h1, Nat.sub_self]
  rfl

theorem numI_set {w : Nat} : ∀ {l : List Int} {j : Nat} (v : Int), j < l.length → numI w (l.set j v) + 2 ^ (w * j) * (l.getD j 0).toNat = numI w l + 2 ^ (w * j) * v.toNat
  | [], j, v, h => by simp at h
  | a :: l, 0, v, _ => by
    simp [numI, List.getD]
    omega
  | a :: l, j + 1, v, h => by
    have ih := numI_set (w := w) (l := l) (j := j) v (by simpa using h)
    have e1 : (a :: l).getD (j + 1) 0 = l.getD j 0 := by simp [List.getD]
    rw [e1]
    simp only [List.set_cons_succ, numI]
    rw [show w * (j + 1) = w + w * j by rw [Nat.mul_add, Nat.mul_one, Nat.add_comm], Nat.pow_add, Nat.mul_assoc, Nat.mul_assoc]
    have ih' := congrArg (fun x => 2 ^ w * x) ih
    simp only [Nat.mul_add] at ih'
    omega

/-- all of a list's numbers below a bound -/
def Bd (d : List Int) (M : Nat) : Prop := d.length = 33 ∧ ∀ j, 0 ≤ d.getD j 0 ∧ d.getD j 0 ≤ (M : Int)
theorem getD_set (d : List Int) (j : Nat) (v : Int) (i : Nat) (hj : j < d.length) : (d.set j v).getD i 0 = if i = j then v else d.getD i 0 := by
  simp only [List.getD, List.getElem?_set]
  by_cases h : i = j
  · subst h
    rw [if_pos rfl, if_pos rfl, if_pos hj]
    rfl
  · rw [if_neg (Ne.symm h), if_neg h]
theorem Bd.set {d : List Int} {M N : Nat} {j : Nat} {v : Int} (h : Bd d M) (hj : j < 33) (h0 : 0 ≤ v) (hv : v ≤ (N : Int)) (hMN : M ≤ N) : Bd (d.set j v) N := by
  refine ⟨by simp [h.1], fun i => ?_⟩
  rw [getD_set _ _ _ _ (by rw [h.1]; exact hj)]
  by_cases hi : i = j
  · rw [if_pos hi]; exact ⟨h0, hv⟩
  · rw [if_neg hi]
    have := h.2 i
    omega

def maI (a b i : Nat) (d : List Int) : Nat → List Int
  | 0 => d
  | k + 1 => maK a b i k (maI a b i d k)
def maD (a b c : Nat) : Nat → List Int
  | 0 => List.replicate 33 0
  | i + 1 => maI a b i (maZ c i (maD a b c i)) 16

theorem dg_nat (x i : Nat) : dg 16 x i = ((x / 2 ^ (16 * i) % 2 ^ 16 : Nat) : Int) := rfl
theorem maK_spec {a b i k M : Nat} {d : List Int} (h : Bd d M) (hi : i < 16) (hk : k < 16) (hM : M < 2 ^ 50) : Bd (maK a b i k d) (M + 2 ^ 32) ∧
    numI 16 (maK a b i k d) = numI 16 d + 2 ^ (16 * (i + k)) * ((a / 2 ^ (16 * i) % 2 ^ 16) * (b / 2 ^ (16 * k) % 2 ^ 16)) := by
  have hj : i + k < d.length := by rw [h.1]; omega
  have h1 := h.2 (i + k)
  have ha : a / 2 ^ (16 * i) % 2 ^ 16 ≤ 65535 := by omega
  have hb : b / 2 ^ (16 * k) % 2 ^ 16 ≤ 65535 := by omega
  have hab : (a / 2 ^ (16 * i) % 2 ^ 16) * (b / 2 ^ (16 * k) % 2 ^ 16) ≤ 65535 * 65535 := Nat.mul_le_mul ha hb
  unfold maK
  rw [dg_nat, dg_nat, ← Int.natCast_mul]
  generalize (a / 2 ^ (16 * i) % 2 ^ 16) * (b / 2 ^ (16 * k) % 2 ^ 16) = p at *
  rw [wu_id (x := (p : Int)) (Int.natCast_nonneg _) (by omega), wu_id (by omega) (by omega)]
  refine ⟨h.set (by omega) (by omega) (by omega) (by omega), ?_⟩
  have hs := numI_set (w := 16) (l := d) (j := i + k) (d.getD (i + k) 0 + (p : Int)) hj
  have e : (d.getD (i + k) 0 + (p : Int)).toNat = (d.getD (i + k) 0).toNat + p := by omega
  have e2 : 2 ^ (16 * (i + k)) * ((d.getD (i + k) 0).toNat + p) = 2 ^ (16 * (i + k)) * (d.getD (i + k) 0).toNat + 2 ^ (16 * (i + k)) * p := Nat.mul_add _ _ _
  rw [e, e2] at hs
  omega
theorem maI_spec {a b i M : Nat} {d : List Int} (h : Bd d M) (hi : i < 16) (hM : M < 2 ^ 49) : ∀ k, k ≤ 16 → Bd (maI a b i d k) (M + k * 2 ^ 32) ∧
    numI 16 (maI a b i d k) = numI 16 d + 2 ^ (16 * i) * ((a / 2 ^ (16 * i) % 2 ^ 16) * (b % 2 ^ (16 * k)))
  | 0, _ => by
    simp only [Nat.mul_zero, Nat.pow_zero, Nat.mod_one, Nat.add_zero, Nat.zero_mul]
    exact ⟨h, rfl⟩
  | k + 1, hk => by
    obtain ⟨h1, h2⟩ := maI_spec (a := a) (b := b) h hi hM k (by omega)
    obtain ⟨h3, h4⟩ := maK_spec (a := a) (b := b) (k := k) h1 hi (by omega) (by
      have : k * 2 ^ 32 ≤ 16 * 2 ^ 32 := Nat.mul_le_mul_right _ (by omega)
      omega)
    refine ⟨?_, ?_⟩
    · have : M + (k + 1) * 2 ^ 32 = M + k * 2 ^ 32 + 2 ^ 32 := by omega
      rw [this]
      exact h3
    · show numI 16 (maK a b i k (maI a b i d k)) = _
      rw [h4, h2, mod_step 16 b k, show 16 * (i + k) = 16 * i + 16 * k by omega, Nat.pow_add]
      generalize a / 2 ^ (16 * i) % 2 ^ 16 = x
      generalize b / 2 ^ (16 * k) % 2 ^ 16 = y
      generalize 2 ^ (16 * i) = u
      generalize 2 ^ (16 * k) = v
      generalize b % v = z
      rw [Nat.mul_add, Nat.mul_add, Nat.add_assoc]
      congr 2
      simp only [Nat.mul_left_comm, Nat.mul_comm]
theorem maZ_spec {c i M : Nat} {d : List Int} (h : Bd d M) (hi : i < 16) (hM : M < 2 ^ 50) : Bd (maZ c i d) (M + 2 ^ 32) ∧ numI 16 (maZ c i d) = numI 16 d + 2 ^ (16 * i) * (c / 2 ^ (16 * i) % 2 ^ 16) := by
  have hj : i < d.length := by rw [h.1]; omega
  have h1 := h.2 i
  unfold maZ
  rw [dg_nat]
  have hc : c / 2 ^ (16 * i) % 2 ^ 16 ≤ 65535 := by omega
  generalize c / 2 ^ (16 * i) % 2 ^ 16 = p at *
  rw [wu_id (by omega) (by omega)]
  refine ⟨h.set (by omega) (by omega) (by omega) (by omega), ?_⟩
  have hs := numI_set (w := 16) (l := d) (j := i) (d.getD i 0 + (p : Int)) hj
  have e : (d.getD i 0 + (p : Int)).toNat = (d.getD i 0).toNat + p := by omega
  rw [e, Nat.mul_add] at hs
  omega
theorem numI_zeros (w : Nat) : ∀ n, numI w (List.replicate n 0) = 0
  | 0 => rfl
  | n + 1 => by simp [List.replicate_succ, numI, numI_zeros w n]
theorem maD_spec (a b c : Nat) : ∀ i, i ≤ 16 → Bd (maD a b c i) (i * (17 * 2 ^ 32)) ∧ numI 16 (maD a b c i) = (a % 2 ^ (16 * i)) * (b % 2 ^ 256) + c % 2 ^ (16 * i)
  | 0, _ => by
    refine ⟨⟨rfl, fun j => ?_⟩, ?_⟩
    · simp only [maD, List.getD, List.getElem?_replicate]
      split <;> simp
    · simp only [maD, numI_zeros, Nat.mul_zero, Nat.pow_zero, Nat.mod_one, Nat.zero_mul, Nat.add_zero]
  | i + 1, hi => by
    obtain ⟨h1, h2⟩ := maD_spec a b c i (by omega)
    have hM : i * (17 * 2 ^ 32) ≤ 16 * (17 * 2 ^ 32) := Nat.mul_le_mul_right _ (by omega)
    obtain ⟨h3, h4⟩ := maZ_spec (c := c) h1 (i := i) (by omega) (by omega)
    obtain ⟨h5, h6⟩ := maI_spec (a := a) (b := b) h3 (i := i) (by omega) (by omega) 16 (by omega)
    refine ⟨?_, ?_⟩
    · have : (i + 1) * (17 * 2 ^ 32) = i * (17 * 2 ^ 32) + 2 ^ 32 + 16 * 2 ^ 32 := by omega
      rw [this]
      exact h5
    · show numI 16 (maI a b i (maZ c i (maD a b c i)) 16) = _
      rw [h6, h4, h2, mod_step 16 a i, mod_step 16 c i]
      have e : (2 : Nat) ^ (16 * 16) = 2 ^ 256 := rfl
      rw [e]
      generalize a / 2 ^ (16 * i) % 2 ^ 16 = x
      generalize c / 2 ^ (16 * i) % 2 ^ 16 = y
      generalize 2 ^ (16 * i) = u
      generalize b % 2 ^ 256 = v
      generalize a % u = z
      generalize c % u = t
      rw [Nat.add_mul, Nat.mul_assoc]
      omega

/-- the bytes of so many digits, and what is over -/
def maA (d : List Int) : Nat → List Int × Int
  | 0 => ([], 0)
  | i + 1 => let n := wu (d.getD i 0 + (maA d i).2)
    ((maA d i).1 ++ [IntKind.wrap .u8 n, IntKind.wrap .u8 (n.fdiv (2 ^ 8))], n.fdiv (2 ^ 16))
theorem numI_take_succ {w : Nat} {l : List Int} {i : Nat} (hi : i < l.length) : numI w (l.take (i + 1)) = numI w (l.take i) + 2 ^ (w * i) * (l.getD i 0).toNat := by
  have hg : l.getD i 0 = l[i] := by simp [List.getD, List.getElem?_eq_getElem hi]
  rw [hg, List.take_add_one, List.getElem?_eq_getElem hi, numI_app]
  simp only [Option.toList_some, List.length_take, numI, Nat.mul_zero, Nat.add_zero]
  rw [Nat.min_eq_left (by omega)]
theorem maA_spec {d : List Int} {M : Nat} (h : Bd d M) (hM : M < 2 ^ 50) : ∀ i, i ≤ 33 → (maA d i).1.length = 2 * i ∧ InD 8 (maA d i).1 ∧ 0 ≤ (maA d i).2 ∧ (maA d i).2 ≤ 2 ^ 50 ∧
    numI 8 (maA d i).1 + 2 ^ (16 * i) * (maA d i).2.toNat = numI 16 (d.take i)
  | 0, _ => ⟨rfl, InD.nil 8, Int.le_refl _, by show (0 : Int) ≤ 2 ^ 50; decide, rfl⟩
  | i + 1, hi => by
    obtain ⟨h1, h2, h3, h4, h5⟩ := maA_spec h hM i (by omega)
    have hd := h.2 i
    simp only [maA]
    generalize (maA d i).2 = o at *
    generalize (maA d i).1 = acc at *
    rw [numI_take_succ (by rw [h.1]; omega), ← h5]
    generalize d.getD i 0 = x at *
    have hn : wu (x + o) = ((x.toNat + o.toNat : Nat) : Int) := by rw [wu_id (by omega) (by omega)]; omega
    rw [hn]
    have hlt : x.toNat + o.toNat < 2 ^ 52 := by omega
    have hsum : 2 ^ (16 * i) * (x.toNat + o.toNat) = 2 ^ (16 * i) * x.toNat + 2 ^ (16 * i) * o.toNat := Nat.mul_add _ _ _
    generalize x.toNat + o.toNat = n at *
    have e1 : ((n : Nat) : Int).fdiv (2 ^ 8) = ((n / 256 : Nat) : Int) := by rw [Int.fdiv_eq_ediv_of_nonneg _ (by decide)]; rfl
    have e2 : ((n : Nat) : Int).fdiv (2 ^ 16) = ((n / 65536 : Nat) : Int) := by rw [Int.fdiv_eq_ediv_of_nonneg _ (by decide)]; rfl
    rw [e1, e2, w8_nat, w8_nat]
    refine ⟨by simp [h1]; omega, ?_, Int.natCast_nonneg _, by omega, ?_⟩
    · intro a ha
      rcases List.mem_append.1 ha with ha | ha
      · exact h2 a ha
      · have hb : ((2 ^ 8 : Nat) : Int) = 256 := rfl
        rw [hb]
        rcases List.mem_cons.1 ha with rfl | ha
        · omega
        · rw [List.mem_singleton.1 ha]
          omega
    · rw [numI_app, h1]
      simp only [numI, Int.toNat_natCast, Nat.mul_zero, Nat.add_zero]
      have e3 : 8 * (2 * i) = 16 * i := by omega
      have e4 : 2 ^ (16 * (i + 1)) = 2 ^ (16 * i) * 65536 := by rw [show 16 * (i + 1) = 16 * i + 16 by omega, Nat.pow_add]
      rw [e3, e4, Nat.mul_assoc]
      have e5 : n = n % 256 + 256 * (n / 256 % 256) + 65536 * (n / 65536) := by omega
      have e6 : 2 ^ (16 * i) * n = 2 ^ (16 * i) * (n % 256 + 2 ^ 8 * (n / 256 % 256)) + 2 ^ (16 * i) * (65536 * (n / 65536)) := by
        rw [← Nat.mul_add]
        congr 1
      omega

theorem no_over {p q n o A B Z : Nat} (hp : p ≤ A) (hq : q ≤ B) (hZ : A + B < Z) (h : n + Z * o = p + q) : n = p + q := by
  rcases Nat.eq_zero_or_pos o with h0 | h0
  · subst h0; omega
  · exfalso
    have : Z * 1 ≤ Z * o := Nat.mul_le_mul_left _ h0
    omega
theorem pow528 (e f : Nat) (hf : f = e + e + 16) : 2 ^ e * 2 ^ e + 2 ^ e < 2 ^ f := by
  subst hf
  rw [Nat.pow_add, Nat.pow_add]
  have h3 : 0 < 2 ^ e := Nat.two_pow_pos e
  generalize 2 ^ e = q at *
  have h2 : q ≤ q * q := Nat.le_mul_of_pos_left _ h3
  generalize q * q = p at *
  omega
theorem last_g {x y c n o m Z : Nat} (hx : x < m) (hy : y < m) (hc : c < m) (hZ : m * m + m < Z) (h : n + Z * o = x * y + c) : n = x * y + c :=
  no_over (Nat.mul_le_mul (Nat.le_of_lt hx) (Nat.le_of_lt hy)) (Nat.le_of_lt hc) hZ h
theorem maA_last (a b c : Nat) : (maA (maD a b c 16) 33).1.length = 66 ∧ InD 8 (maA (maD a b c 16) 33).1 ∧ numI 8 (maA (maD a b c 16) 33).1 = (a % 2 ^ 256) * (b % 2 ^ 256) + c % 2 ^ 256 := by
  obtain ⟨h1, h2⟩ := maD_spec a b c 16 (by decide)
  obtain ⟨h3, h4, h5, h6, h7⟩ := maA_spec h1 (by decide) 33 (by decide)
  refine ⟨h3, h4, ?_⟩
  rw [List.take_of_length_le (by rw [h1.1]; exact Nat.le_refl _), h2] at h7
  have hz := pow528 256 (16 * 33) rfl
  have ha : a % 2 ^ 256 < 2 ^ 256 := Nat.mod_lt _ (Nat.two_pow_pos 256)
  have hb : b % 2 ^ 256 < 2 ^ 256 := Nat.mod_lt _ (Nat.two_pow_pos 256)
  have hc : c % 2 ^ 256 < 2 ^ 256 := Nat.mod_lt _ (Nat.two_pow_pos 256)
  generalize 2 ^ (16 * 33) = Z at hz h7
  generalize 2 ^ 256 = m at *
  exact last_g ha hb hc hz h7

end Go.Proofs.Ytahkpabndfaoiaa

/- The statements' functions: the chapter's rows; the order. -/
namespace Go.Proofs.Ytahkpabndfaoiaa
open Eng Go Go.RowKit Go.Proofs Ec

def T11 (o : POps) (r : ROps) : List (FuncId × FnSpec) :=
  (10, specRBytes) ::
  (11, spec0 (.pv (numP r.ord))) :: T9 o
theorem T11_ok : TableOK Try.prog (lookT (T11 pops rops)) := tableOK_cons rbytes_ok (tableOK_cons order_ok T9_ok)

def K1 (t : Int) : List Int := t :: List.replicate 31 0
def kB1 (t : Int) : Prop := ∀ a ∈ K1 t, 0 ≤ a ∧ a < 256
def knX (o : POps) (r : ROps) (Y : Nat) : Nat → Option (SV × List Prop)
  | 0 => cond (dg 8 Y 0 == 88)
    (cond (o.same (o.pmul o.pbase r.ord) zeroX4)
      (some (.pv (bo (eqL (digI 8 (o.pbytes zeroX4) 32) (K1 1))), [zeroOb, zeroOb, zeroOb, zeroOb, zeroOb, zeroOb, zeroOb, zeroOb, kB1 1]))
      (some (.pv (bo false), [zeroOb, zeroOb, zeroOb, zeroOb, kB1 1])))
    (some (.pv (bo false), [kB1 1]))
  | n + 1 => cond (dg 8 Y (31 - n) != 102) (some (.pv (bo false), [kB1 1])) (knX o r Y n)
theorem known_x (o : POps) (r : ROps) : callX Try.prog (lookT (T11 o r)) 3000 Try.f16 [] = knX o r (o.py (o.pmul o.pbase (numI 8 (K1 1)))) 31 := by kernel_rfl

def T12 (o : POps) (r : ROps) (ma : Nat → Nat → Nat → Nat) : List (FuncId × FnSpec) :=
  (16, spec0 (.pv (bo true))) ::
  (12, spec3 dK dK dK fun a b c => (.pv (keyP (ma a b c)), [])) :: T11 o r
def K0 : List Int := List.replicate 32 0
def kB0 : Prop := ∀ a ∈ K0, 0 ≤ a ∧ a < 256
theorem eorder_x (o : POps) (r : ROps) (ma : Nat → Nat → Nat → Nat) (k : Nat) (t : Int) : callX Try.prog (lookT (T12 o r ma)) 3000 Try.f3 [keyP k, .one (.val (.int .u8 t))] =
    cond (!o.same (o.pmul o.pbase k) (o.pmul o.pbase (ma k (numI 8 (K1 1)) (numI 8 K0)))) (some (.pv (bo false), [kB1 1, kB0]))
      (cond (!o.same (o.pmul (o.pmul o.pbase k) r.ord) zeroX4) (some (.pv (bo false), [zeroOb, zeroOb, zeroOb, zeroOb, kB1 1, kB0]))
        (cond (o.same (o.pmul (o.pmul o.pbase k) (numI 8 (K1 t))) (o.pmul o.pbase (ma k (numI 8 (K1 t)) (numI 8 K0)))) (some (.pv (bo true), [kB1 t, kB1 t, kB0, zeroOb, zeroOb, zeroOb, zeroOb, kB1 1, kB0]))
          (some (.pv (bo false), [kB1 t, kB1 t, kB0, zeroOb, zeroOb, zeroOb, zeroOb, kB1 1, kB0])))) := by kernel_rfl

end Go.Proofs.Ytahkpabndfaoiaa

/- The statements: the chapter's rows; what multiples stand for. -/
namespace Go.Proofs.Ytahkpabndfaoiaa
open Eng Go Go.RowKit Go.Proofs Ec

theorem p_mul (p : X4) (e : Nat) : pops.pmul p e = mulP p e := rfl
theorem p_base : pops.pbase = base4 := rfl
theorem p_same (p q : X4) : pops.same p q = X4.same p q := rfl
theorem p_bytes (p : X4) : pops.pbytes p = bNum p := rfl
theorem p_y (p : X4) : pops.py p = yNum p := rfl

theorem mulP_rep {p : X4} {a : Pt P D} (h : Rep p a) (e : Nat) : Rep (mulP p e) (pmul a (e % 2 ^ 256)) := by
  have := h.mul (bits256 e 256) X4.nought 0 rep_nought
  rw [numOf_top e 256 (Nat.le_refl _), top_all] at this
  exact this
theorem baseP_rep (e : Nat) : Rep (mulP base4 e) (pmul B (e % 2 ^ 256)) := mulP_rep rep_base e
theorem zero_rep : Rep zeroX4 Cur.zero := by rw [zeroX4_is]; exact rep_nil
theorem same_of {p q : X4} {a b : Pt P D} (hp : Rep p a) (hq : Rep q b) (h : a = b) : X4.same p q = true := by
  rw [hp.same hq, h]
  simp
theorem flat_of {p : X4} {a : Pt P D} (h : Rep p a) : flatOf p = (a.x, a.y) := by
  obtain ⟨h1, h2⟩ := h.flat
  unfold flatOf
  rw [h1, h2]

/-- the base, so often, hangs on the number modulo the order -/
theorem pmul_mod (n : Nat) : pmul B (n % Ec.L) = pmul B n := by
  have h : n = Ec.L * (n / Ec.L) + n % Ec.L := (Nat.div_add_mod n Ec.L).symm
  have h1 : pmul B (Ec.L * (n / Ec.L) + n % Ec.L) = padd (pmul B (Ec.L * (n / Ec.L))) (pmul B (n % Ec.L)) := curP.mul_add B _ _
  have h2 : pmul B (Ec.L * (n / Ec.L)) = Cur.zero := by
    have := curP.mul_mul B Ec.L (n / Ec.L)
    rw [show curP.mul B Ec.L = Cur.zero from base_L, curP.mul_zero] at this
    exact this.symm
  rw [h2] at h1
  rw [← h] at h1
  rw [h1]
  exact (curP.zero_add _).symm
theorem pmul_pmul (a : Pt P D) (m n : Nat) : pmul (pmul a m) n = pmul a (m * n) := curP.mul_mul a m n

theorem L_small : Ec.L % 2 ^ 256 = Ec.L := by decide +kernel
theorem K1_num (t : Int) : numI 8 (K1 t) = t.toNat := by
  unfold K1
  simp only [numI, numI_zeros, Nat.mul_zero, Nat.add_zero]
theorem K0_num : numI 8 K0 = 0 := numI_zeros 8 32
theorem kB1_ok {t : Int} (h : 0 ≤ t ∧ t < 256) : kB1 t := by
  intro a ha
  rcases List.mem_cons.1 ha with rfl | ha
  · exact h
  · rw [List.eq_of_mem_replicate ha]; decide
theorem kB0_ok : kB0 := by
  intro a ha
  rw [List.eq_of_mem_replicate ha]; decide

theorem one_small : 1 % 2 ^ 256 = 1 := by decide
theorem pmul_one : pmul B 1 = B := curP.zero_add B
theorem base1_y : yNum (mulP base4 1) = BY.val := by
  have h := baseP_rep 1
  rw [one_small, pmul_one] at h
  rw [yNum_eq, flat_of h]
  rfl
theorem base_L_same : X4.same (mulP base4 Ec.L) zeroX4 = true := by
  have h := baseP_rep Ec.L
  rw [L_small, base_L] at h
  exact same_of h zero_rep rfl
theorem nought_bytes : bNum zeroX4 = 1 := by
  rw [bNum_eq, flat_of zero_rep]
  decide +kernel
theorem one_key : eqL (digI 8 1 32) (K1 1) = true := by decide +kernel
theorem BY_bytes : ∀ i, i < 32 → dg 8 BY.val i = if i = 0 then 88 else 102 := by decide +kernel
theorem knX_is (n : Nat) (h : n ≤ 31) : knX pops rops BY.val n = some (.pv (bo true), [zeroOb, zeroOb, zeroOb, zeroOb, zeroOb, zeroOb, zeroOb, zeroOb, kB1 1]) := by
  induction n with
  | zero =>
    unfold knX
    rw [BY_bytes 0 (by decide), p_mul, p_base, p_same, rops_ord, base_L_same, p_bytes, nought_bytes, one_key]
    rfl
  | succ n ih =>
    unfold knX
    rw [BY_bytes (31 - n) (by omega), if_neg (by omega)]
    exact ih (by omega)
theorem known_m : callX Try.prog (lookT (T11 pops rops)) 3000 Try.f16 [] = some (.pv (bo true), [zeroOb, zeroOb, zeroOb, zeroOb, zeroOb, zeroOb, zeroOb, zeroOb, kB1 1]) := by
  have h := known_x pops rops
  rw [K1_num, p_mul, p_base, p_y, show (1 : Int).toNat = 1 from rfl, base1_y, knX_is 31 (by decide)] at h
  exact h
theorem known_ok : SpecOK Try.prog 16 (spec0 (.pv (bo true))) :=
  spec0_ok (n := 3000) Try.func16 (by decide +kernel) (by kernel_rfl) T11_ok mixed ⟨_, _, _, known_m, ⟨zeroOb_ok, zeroOb_ok, zeroOb_ok, zeroOb_ok, zeroOb_ok, zeroOb_ok, zeroOb_ok, zeroOb_ok, kB1_ok (by decide), trivial⟩, rfl, rfl⟩

end Go.Proofs.Ytahkpabndfaoiaa
