/-
Bytes as numbers: digits of eight bits in words, words cut into digits.
-/
import Derived.Test.YtahkpabndfaoiaaE13
namespace Eng
open Go Go.RowKit

/-- the number that digits say -/
def numI (w : Nat) : List Int → Nat
  | [] => 0
  | a :: l => a.toNat + 2 ^ w * numI w l

theorem dg_succ (w a m i : Nat) (ha : a < 2 ^ w) : dg w (a + 2 ^ w * m) (i + 1) = dg w m i := by
  unfold dg
  have : (a + 2 ^ w * m) / 2 ^ (w * (i + 1)) = m / 2 ^ (w * i) := by
    rw [show w * (i + 1) = w + w * i by rw [Nat.mul_add, Nat.mul_one, Nat.add_comm], Nat.pow_add, ← Nat.div_div_eq_div_mul, Nat.add_mul_div_left _ _ (Nat.two_pow_pos w), Nat.div_eq_of_lt ha, Nat.zero_add]
  rw [this]

theorem digI_succ (w a m n : Nat) (ha : a < 2 ^ w) : digI w (a + 2 ^ w * m) (n + 1) = (a : Int) :: digI w m n := by
  unfold digI
  rw [List.range_succ_eq_map, List.map_cons, List.map_map]
  congr 1
  · unfold dg
    simp [Nat.add_mul_mod_self_left, Nat.mod_eq_of_lt ha]
  · exact List.map_congr_left fun i _ => dg_succ w a m i ha

theorem digI_numI {w : Nat} : ∀ {l : List Int}, (∀ a ∈ l, 0 ≤ a ∧ a < ((2 ^ w : Nat) : Int)) → digI w (numI w l) l.length = l
  | [], _ => rfl
  | a :: l, h => by
    have h0 := h a (.head _)
    have ih := digI_numI (w := w) (l := l) fun b hb => h b (.tail _ hb)
    simp only [numI, List.length_cons]
    rw [digI_succ w _ _ _ (by omega), ih]
    congr 1
    omega

theorem dg_nn (w x i : Nat) : 0 ≤ dg w x i ∧ dg w x i < ((2 ^ w : Nat) : Int) := by
  unfold dg
  exact ⟨Int.natCast_nonneg _, Int.ofNat_lt.2 (Nat.mod_lt _ (Nat.two_pow_pos w))⟩

theorem dg_mod (w x n i : Nat) (h : i < n) : dg w (x % 2 ^ (w * n)) i = dg w x i := by
  unfold dg
  congr 1
  have hn : 2 ^ (w * n) = 2 ^ (w * i) * 2 ^ (w * (n - i)) := by rw [← Nat.pow_add, ← Nat.mul_add]; congr 2; omega
  rw [hn, Nat.mod_mul_right_div_self, Nat.mod_mod_of_dvd]
  exact Nat.pow_dvd_pow 2 (by
    have : w * 1 ≤ w * (n - i) := Nat.mul_le_mul_left w (by omega)
    omega)

theorem digI_mod (w x n : Nat) : digI w (x % 2 ^ (w * n)) n = digI w x n :=
  List.map_congr_left fun i hi => dg_mod w x n i (List.mem_range.1 hi)

theorem numI_digI (w : Nat) : ∀ (n x : Nat), numI w (digI w x n) = x % 2 ^ (w * n)
  | 0, x => by simp [digI, numI, Nat.mod_one]
  | n + 1, x => by
    have h := digI_succ w (x % 2 ^ w) (x / 2 ^ w) n (Nat.mod_lt _ (Nat.two_pow_pos w))
    rw [Nat.mod_add_div] at h
    rw [h]
    simp only [numI]
    rw [numI_digI w n, show w * (n + 1) = w + w * n by rw [Nat.mul_add, Nat.mul_one, Nat.add_comm], Nat.pow_add, Nat.mod_mul]
    congr 1

theorem digI_inj {w n x y : Nat} (h : digI w x n = digI w y n) : x % 2 ^ (w * n) = y % 2 ^ (w * n) := by
  rw [← numI_digI, h, numI_digI]

/-- bytes, as a number -/
def decK (p : PV) : Option (Nat × List Prop) :=
  match p with
  | .agg [.dig .u8 8 x 32] => some (x, [])
  | p => match p.ints? .u8 with
    | some l => cond (Nat.beq l.length 32) (some (numI 8 l, [∀ a ∈ l, 0 ≤ a ∧ a < 256])) none
    | none => none

def dK : Dec Nat where
  dec := decK
  can := keyP
  law := by
    intro p x pre ρ v h hp e
    unfold decK at h
    split at h
    · cases h
      have := PV.val?_den (ρ := ρ) (keyP_val x)
      unfold keyP at this
      rw [this] at e
      cases e
      exact keyP_val _
    · cases h1 : p.ints? .u8 with
      | none => simp [h1] at h
      | some l =>
        simp only [h1] at h
        by_cases hl : Nat.beq l.length 32 = true
        · rw [hl] at h
          cases h
          have := PV.ints?_spec h1 e
          subst this
          rw [keyP_val]
          unfold keyV
          have hn : l.length = 32 := Nat.eq_of_beq_eq_true hl
          have := digI_numI (w := 8) (l := l) hp.1
          rw [hn] at this
          rw [this]
        · rw [Bool.eq_false_iff.2 hl] at h
          cases h

/-- are lists the same? -/
def eqL : List Int → List Int → Bool
  | a :: l, b :: m => (a == b) && eqL l m
  | _, _ => true
theorem eqL_spec : ∀ {l m : List Int}, l.length = m.length → eqL l m = decide (l = m)
  | [], [], _ => rfl
  | a :: l, b :: m, h => by
    have ih := eqL_spec (l := l) (m := m) (by simpa using h)
    simp only [eqL, ih, List.cons.injEq]
    rw [Bool.eq_iff_iff]
    simp

theorem digI_length (w x n : Nat) : (digI w x n).length = n := by simp [digI]
theorem eqL_dig (w n x y : Nat) : eqL (digI w x n) (digI w y n) = decide (x % 2 ^ (w * n) = y % 2 ^ (w * n)) := by
  rw [eqL_spec (by simp [digI_length]), Bool.eq_iff_iff]
  simp only [decide_eq_true_eq]
  constructor
  · exact digI_inj
  · intro h
    rw [← digI_mod, h, digI_mod]

theorem eqL_fe (x y : Fin Ec.P) : (eqL (digI 64 x.val 4) (digI 64 y.val 4) && true) = decide (x = y) := by
  have hx : x.val < 2 ^ (64 * 4) := Nat.lt_trans x.isLt (by decide)
  have hy : y.val < 2 ^ (64 * 4) := Nat.lt_trans y.isLt (by decide)
  rw [eqL_dig, Bool.and_true, Nat.mod_eq_of_lt hx, Nat.mod_eq_of_lt hy, Bool.eq_iff_iff]
  simp only [decide_eq_true_eq]
  exact ⟨Fin.ext, fun h => h ▸ rfl⟩

end Eng
namespace Fw
open Eng Go

theorem pow_cast (k : Nat) : ((2 ^ k : Nat) : Int) = (2 : Int) ^ k := by
  rw [Int.natCast_pow]; rfl

def orI (a b : Int) : Int := wr ((BitVec.ofInt 64 a ||| BitVec.ofInt 64 b).toNat)
def xorI (a b : Int) : Int := wr ((BitVec.ofInt 64 a ^^^ BitVec.ofInt 64 b).toNat)
def shlI (a n : Int) : Int := wr (a * 2 ^ (min n.toNat 64))

theorem or_disj {a : Int} {b k : Nat} (ha : W a) (hk : a < ((2 ^ k : Nat) : Int)) (hb : b * 2 ^ k < 2 ^ 64) : orI a ((b * 2 ^ k : Nat) : Int) = a + ((b * 2 ^ k : Nat) : Int) := by
  unfold orI
  have wb : W ((b * 2 ^ k : Nat) : Int) := ⟨Int.natCast_nonneg _, by omega⟩
  rw [BitVec.toNat_or, ofInt_toNat ha, ofInt_toNat wb, Int.toNat_natCast, Nat.or_comm, Nat.mul_comm b, ← Nat.two_pow_add_eq_or_of_lt (by unfold W at ha; omega)]
  have : ((2 ^ k * b + a.toNat : Nat) : Int) = a + ((2 ^ k * b : Nat) : Int) := by unfold W at ha; omega
  rw [this]
  apply wr_id
  have h64 : 2 ^ k * b + a.toNat < 2 ^ 64 := by
    have h1 : a.toNat < 2 ^ k := by unfold W at ha; omega
    have h2 : 2 ^ k * b ||| a.toNat = 2 ^ k * b + a.toNat := (Nat.two_pow_add_eq_or_of_lt h1 b).symm
    rw [← h2]
    exact Nat.or_lt_two_pow (by rw [Nat.mul_comm]; exact hb) (by unfold W at ha; omega)
  unfold W at *
  omega

/-- eight bytes in a word -/
def byteW (n j : Nat) : Int :=
  (List.range 8).foldl (fun a r => orI a (shlI (wr (dg 8 n (8 * j + r))) ((8 * r : Nat) : Int))) 0

theorem dg_shift (n j r : Nat) : dg 8 n (8 * j + r) = dg 8 (n / 2 ^ (64 * j)) r := by
  unfold dg
  rw [Nat.div_div_eq_div_mul, ← Nat.pow_add]
  congr 4
  omega

theorem byte_step {n r : Nat} (hr : r < 8) : orI (((n % 2 ^ (8 * r) : Nat)) : Int) (shlI (wr (dg 8 n r)) ((8 * r : Nat) : Int)) = ((n % 2 ^ (8 * (r + 1)) : Nat) : Int) := by
  have h0 : ((n % 2 ^ (8 * r) : Nat) : Int) < ((2 ^ (8 * r) : Nat) : Int) := Int.ofNat_lt.2 (Nat.mod_lt _ (Nat.two_pow_pos _))
  have hp : 2 ^ (8 * r) ≤ 2 ^ 56 := Nat.pow_le_pow_right (by decide) (by omega)
  have hd : n / 2 ^ (8 * r) % 2 ^ 8 < 256 := Nat.mod_lt _ (by decide)
  have hm : n / 2 ^ (8 * r) % 2 ^ 8 * 2 ^ (8 * r) < 2 ^ 64 := Nat.lt_of_le_of_lt (Nat.mul_le_mul (show _ ≤ 255 by omega) hp) (by decide)
  have e1 : shlI (wr (dg 8 n r)) ((8 * r : Nat) : Int) = ((n / 2 ^ (8 * r) % 2 ^ 8 * 2 ^ (8 * r) : Nat) : Int) := by
    unfold shlI dg
    rw [wr_id ⟨Int.natCast_nonneg _, by omega⟩, Int.toNat_natCast, Nat.min_eq_left (by omega)]
    have : ((n / 2 ^ (8 * r) % 2 ^ 8 : Nat) : Int) * 2 ^ (8 * r) = ((n / 2 ^ (8 * r) % 2 ^ 8 * 2 ^ (8 * r) : Nat) : Int) := by rw [Int.natCast_mul, pow_cast (8 * r)]
    rw [this]
    exact wr_id ⟨Int.natCast_nonneg _, by omega⟩
  rw [e1, or_disj ⟨Int.natCast_nonneg _, by omega⟩ h0 hm]
  have := Nat.mod_mul (a := 2 ^ (8 * r)) (b := 2 ^ 8) (x := n)
  rw [← Nat.pow_add, show 8 * r + 8 = 8 * (r + 1) by omega] at this
  rw [this, Nat.mul_comm (2 ^ (8 * r)), Int.natCast_add]

theorem byteW_spec (n j : Nat) : byteW n j = dg 64 n j := by
  unfold byteW
  have key : ∀ r, r ≤ 8 → (List.range r).foldl (fun a r => orI a (shlI (wr (dg 8 n (8 * j + r))) ((8 * r : Nat) : Int))) 0 = (((n / 2 ^ (64 * j)) % 2 ^ (8 * r) : Nat) : Int) := by
    intro r
    induction r with
    | zero => intro _; simp [Nat.mod_one]
    | succ r ih =>
      intro h
      rw [List.range_succ, List.foldl_append, ih (by omega), List.foldl_cons, List.foldl_nil, dg_shift]
      exact byte_step (by omega)
  rw [key 8 (Nat.le_refl 8)]
  rfl

/-- a word's bytes -/
def cutB (x i : Nat) : Int := IntKind.wrap .u8 (shrI (dg 64 x (i / 8)) ((8 * (i % 8) : Nat) : Int))
theorem cutB_spec (x i : Nat) : cutB x i = dg 8 x i := by
  unfold cutB shrI
  have hr : i % 8 < 8 := Nat.mod_lt _ (by decide)
  rw [Int.toNat_natCast, Nat.min_eq_left (by omega)]
  have e : (dg 64 x (i / 8)).fdiv (2 ^ (8 * (i % 8))) = ((x / 2 ^ (64 * (i / 8)) % 2 ^ 64 / 2 ^ (8 * (i % 8)) : Nat) : Int) := by
    unfold dg
    rw [Int.fdiv_eq_ediv_of_nonneg _ (by exact Int.pow_nonneg (by decide)), ← pow_cast, Int.natCast_ediv]
  rw [e]
  have w8 : ∀ m : Nat, IntKind.wrap .u8 (m : Int) = ((m % 256 : Nat) : Int) := by
    intro m
    show (m : Int).emod _ = _
    rfl
  rw [w8]
  unfold dg
  congr 1
  have h64 : 2 ^ 64 = 2 ^ (8 * (i % 8)) * 2 ^ (64 - 8 * (i % 8)) := by rw [← Nat.pow_add]; congr 1; omega
  rw [h64, Nat.mod_mul_right_div_self, show (256 : Nat) = 2 ^ 8 from rfl, Nat.mod_mod_of_dvd _ (Nat.pow_dvd_pow 2 (by omega)), Nat.div_div_eq_div_mul, ← Nat.pow_add]
  congr 3
  omega

theorem of_val (n : Nat) : val4 (byteW n 0) (byteW n 1) (byteW n 2) (andI (byteW n 3) 9223372036854775807) = ((n % 57896044618658097711785492504343953926634992332820282019728792003956564819968 : Nat) : Int) := by
  have h3 : W (byteW n 3) := by rw [byteW_spec]; exact dg_W _ _
  rw [and63 h3]
  simp only [byteW_spec]
  unfold dg val4
  omega

theorem xor_zero {a b : Int} (ha : W a) (_hb : W b) : xorI a (andI 0 (xorI a b)) = a := by
  have : andI 0 (xorI a b) = 0 := by
    unfold andI
    simp
    rfl
  rw [this]
  unfold xorI
  simp only [BitVec.toNat_xor, ofInt_toNat ha]
  have : (BitVec.ofInt 64 0).toNat = 0 := rfl
  rw [this, Nat.xor_zero]
  have : ((a.toNat : Nat) : Int) = a := Int.toNat_of_nonneg ha.1
  rw [this]
  exact wr_id ha
theorem xor_ones {a b : Int} (ha : W a) (hb : W b) : xorI a (andI 18446744073709551615 (xorI a b)) = b := by
  have hx : xorI a b = ((a.toNat ^^^ b.toNat : Nat) : Int) := by
    unfold xorI
    rw [BitVec.toNat_xor, ofInt_toNat ha, ofInt_toNat hb]
    have := Nat.xor_lt_two_pow (x := a.toNat) (y := b.toNat) (n := 64) (by unfold W at ha; omega) (by unfold W at hb; omega)
    exact wr_id ⟨Int.natCast_nonneg _, by omega⟩
  have hlt := Nat.xor_lt_two_pow (x := a.toNat) (y := b.toNat) (n := 64) (by unfold W at ha; omega) (by unfold W at hb; omega)
  have wx : W (xorI a b) := by rw [hx]; exact ⟨Int.natCast_nonneg _, by omega⟩
  have h1 : andI 18446744073709551615 (xorI a b) = xorI a b := by
    have := and_low (a := xorI a b) wx 64 (by decide)
    have hc : andI 18446744073709551615 (xorI a b) = andI (xorI a b) 18446744073709551615 := by unfold andI; rw [BitVec.and_comm]
    rw [hc]
    refine Eq.trans this ?_
    unfold W at wx
    omega
  rw [h1]
  have : xorI a (xorI a b) = ((a.toNat ^^^ (a.toNat ^^^ b.toNat) : Nat) : Int) := by
    rw [hx]
    unfold xorI
    rw [BitVec.toNat_xor, ofInt_toNat ha, ofInt_toNat ⟨Int.natCast_nonneg _, by omega⟩, Int.toNat_natCast]
    have := Nat.xor_lt_two_pow (x := a.toNat) (y := a.toNat ^^^ b.toNat) (n := 64) (by unfold W at ha; omega) hlt
    exact wr_id ⟨Int.natCast_nonneg _, by omega⟩
  rw [this, ← Nat.xor_assoc, Nat.xor_self, Nat.zero_xor]
  exact Int.toNat_of_nonneg hb.1

theorem odd_dg (x : Nat) : (andI (dg 64 x 0) 1 == 1) = (x % 2 == 1) := by
  have := and_low (a := dg 64 x 0) (dg_W _ _) 1 (by decide)
  have h : andI (dg 64 x 0) 1 = dg 64 x 0 % 2 := this
  rw [h]
  unfold dg
  rw [Bool.eq_iff_iff]
  simp only [beq_iff_eq]
  omega

end Fw
