/-
Sums of digits: what the reference's products and bits come to.
-/
import Derived.Test.YtahkpabndfaoiaaH4
namespace Go.Proofs.Ytahkpabndfaoiaa
open Eng Go Go.RowKit Go.Proofs

def valB (R : Nat) (m : List Int) : Nat := m.foldl (fun R b => 2 * R + b.toNat) R
theorem valB_app (R : Nat) (m : List Int) (b : Int) : valB R (m ++ [b]) = 2 * valB R m + b.toNat := by simp [valB]
theorem foldl_bitN {m : List Int} : ∀ {R x : Nat}, (∀ a ∈ m, 0 ≤ a ∧ a < 2) → R = x % Ec.L → m.foldl bitN R = valB x m % Ec.L := by
  induction m with
  | nil => intro R x _ h; exact h
  | cons b m ih =>
    intro R x hm h
    have hR : R < Ec.L := by rw [h]; exact Nat.mod_lt _ L_pos
    have hb := hm b (.head _)
    show m.foldl bitN (bitN R b) = valB (2 * x + b.toNat) m % Ec.L
    refine ih (fun a ha => hm a (.tail _ ha)) ?_
    rw [bitN_mod hR hb, h, Nat.add_mod, Nat.mul_mod, Nat.mod_mod, ← Nat.mul_mod, ← Nat.add_mod]
theorem bitsN_val {m : List Int} (hm : ∀ a ∈ m, 0 ≤ a ∧ a < 2) : bitsN m = valB 0 m % Ec.L := foldl_bitN hm (by rw [Nat.zero_mod])

theorem bitE_nat {l : List Int} {i k : Nat} {b : Nat} (h : l.getD i 0 = (b : Int)) : bitE l (i : Int) k = ((b / 2 ^ k % 2 : Nat) : Int) := by
  unfold bitE
  have : 0 + (i : Int).toNat * 1 = i := by omega
  rw [this, h, Int.fdiv_eq_ediv_of_nonneg _ (Int.pow_nonneg (by decide)), ← Fw.pow_cast, ← Int.natCast_ediv, Int.tmod_eq_emod_of_nonneg (Int.natCast_nonneg _), Int.natCast_emod]
  rfl
theorem hiA_val {l acc : List Int} {i b : Nat} (h : l.getD i 0 = (b : Int)) (hb : b < 256) : ∀ k, k ≤ 8 → valB 0 (hiA l i acc k) = 2 ^ k * valB 0 acc + b / 2 ^ (8 - k)
  | 0, _ => by
    have : b / 2 ^ (8 - 0) = 0 := Nat.div_eq_of_lt hb
    rw [this]
    simp [hiA]
  | k + 1, hk => by
    unfold hiA
    rw [valB_app, hiA_val h hb k (by omega), bitE_nat h, Int.toNat_natCast]
    have e1 : 8 - k = (7 - k) + 1 := by omega
    have e2 : 8 - (k + 1) = 7 - k := by omega
    rw [e1, e2, Nat.pow_succ, ← Nat.div_div_eq_div_mul]
    generalize b / 2 ^ (7 - k) = y
    rw [Nat.pow_succ, Nat.mul_comm (2 ^ k) 2, Nat.mul_assoc]
    generalize 2 ^ k * valB 0 acc = z
    omega
theorem hiA_bits {l acc : List Int} {i b : Nat} (h : l.getD i 0 = (b : Int)) (ha : ∀ a ∈ acc, 0 ≤ a ∧ a < 2) : ∀ k, ∀ a ∈ hiA l i acc k, 0 ≤ a ∧ a < 2
  | 0 => ha
  | k + 1 => by
    intro a hm
    unfold hiA at hm
    rcases List.mem_append.1 hm with h1 | h1
    · exact hiA_bits h ha k a h1
    · rw [List.mem_singleton.1 h1, bitE_nat h]
      omega

theorem numI_drop {w : Nat} {l : List Int} {i : Nat} (hi : i < l.length) : numI w (l.drop i) = l[i].toNat + 2 ^ w * numI w (l.drop (i + 1)) := by
  rw [List.drop_eq_getElem_cons hi]
  rfl

theorem hiUp_spec {l : List Int} (hl : ∀ a ∈ l, 0 ≤ a ∧ a < 256) : ∀ j, j ≤ l.length → valB 0 (hiUp l j) = numI 8 (l.drop (l.length - j)) ∧ ∀ a ∈ hiUp l j, 0 ≤ a ∧ a < 2
  | 0, _ => by
    rw [Nat.sub_zero, List.drop_length]
    exact ⟨rfl, fun a h => by cases h⟩
  | j + 1, hj => by
    obtain ⟨h1, h2⟩ := hiUp_spec hl j (by omega)
    have hi : l.length - (j + 1) < l.length := by omega
    have hb := hl _ (List.getElem_mem hi)
    have hg : l.getD (l.length - (j + 1)) 0 = ((l[l.length - (j + 1)].toNat : Nat) : Int) := by
      simp only [List.getD, List.getElem?_eq_getElem hi, Option.getD_some]
      omega
    have hx : (l.length : Int) - 1 - j = ((l.length - (j + 1) : Nat) : Int) := by omega
    unfold hiUp
    rw [hx]
    refine ⟨?_, hiA_bits hg h2 8⟩
    rw [hiA_val hg (by omega) 8 (by decide), h1, numI_drop hi]
    have : l.length - (j + 1) + 1 = l.length - j := by omega
    rw [this]
    show 256 * _ + _ / 1 = _ + 256 * _
    rw [Nat.div_one, Nat.add_comm]
theorem high_bits {l : List Int} (hl : ∀ a ∈ l, 0 ≤ a ∧ a < 256) : bitsN (highF l) = numI 8 l % Ec.L ∧ ∀ a ∈ highF l, 0 ≤ a ∧ a < 2 := by
  obtain ⟨h1, h2⟩ := hiUp_spec hl l.length (Nat.le_refl _)
  refine ⟨?_, h2⟩
  unfold highF
  rw [bitsN_val h2, h1, Nat.sub_self]
  rfl

theorem numI_set {w : Nat} : ∀ {l : List Int} {j : Nat} (v : Int), j < l.length → numI w (l.set j v) + 2 ^ (w * j) * (l.getD j 0).toNat = numI w l + 2 ^ (w * j) * v.toNat
  | [], j, v, h => by simp at h
  | a :: l, 0, v, _ => by
    simp [numI, List.getD]
    omega
  | a :: l, j + 1, v, h => by
    have ih := numI_set (w := w) (l := l) (j := j) v (by simpa using h)
    have e1 : (a :: l).getD (j + 1) 0 = l.getD j 0 := by simp [List.getD]
    rw [e1]
    simp only [List.set_cons_succ, numI]
    rw [show w * (j + 1) = w + w * j by rw [Nat.mul_add, Nat.mul_one, Nat.add_comm], Nat.pow_add, Nat.mul_assoc, Nat.mul_assoc]
    have ih' := congrArg (fun x => 2 ^ w * x) ih
    simp only [Nat.mul_add] at ih'
    omega

/-- all of a list's numbers below a bound -/
def Bd (d : List Int) (M : Nat) : Prop := d.length = 33 ∧ ∀ j, 0 ≤ d.getD j 0 ∧ d.getD j 0 ≤ (M : Int)
theorem getD_set (d : List Int) (j : Nat) (v : Int) (i : Nat) (hj : j < d.length) : (d.set j v).getD i 0 = if i = j then v else d.getD i 0 := by
  simp only [List.getD, List.getElem?_set]
  by_cases h : i = j
  · subst h
    rw [if_pos rfl, if_pos rfl, if_pos hj]
    rfl
  · rw [if_neg (Ne.symm h), if_neg h]
theorem Bd.set {d : List Int} {M N : Nat} {j : Nat} {v : Int} (h : Bd d M) (hj : j < 33) (h0 : 0 ≤ v) (hv : v ≤ (N : Int)) (hMN : M ≤ N) : Bd (d.set j v) N := by
  refine ⟨by simp [h.1], fun i => ?_⟩
  rw [getD_set _ _ _ _ (by rw [h.1]; exact hj)]
  by_cases hi : i = j
  · rw [if_pos hi]; exact ⟨h0, hv⟩
  · rw [if_neg hi]
    have := h.2 i
    omega

def maI (a b i : Nat) (d : List Int) : Nat → List Int
  | 0 => d
  | k + 1 => maK a b i k (maI a b i d k)
def maD (a b c : Nat) : Nat → List Int
  | 0 => List.replicate 33 0
  | i + 1 => maI a b i (maZ c i (maD a b c i)) 16

theorem dg_nat (x i : Nat) : dg 16 x i = ((x / 2 ^ (16 * i) % 2 ^ 16 : Nat) : Int) := rfl
theorem maK_spec {a b i k M : Nat} {d : List Int} (h : Bd d M) (hi : i < 16) (hk : k < 16) (hM : M < 2 ^ 50) : Bd (maK a b i k d) (M + 2 ^ 32) ∧
    numI 16 (maK a b i k d) = numI 16 d + 2 ^ (16 * (i + k)) * ((a / 2 ^ (16 * i) % 2 ^ 16) * (b / 2 ^ (16 * k) % 2 ^ 16)) := by
  have hj : i + k < d.length := by rw [h.1]; omega
  have h1 := h.2 (i + k)
  have ha : a / 2 ^ (16 * i) % 2 ^ 16 ≤ 65535 := by omega
  have hb : b / 2 ^ (16 * k) % 2 ^ 16 ≤ 65535 := by omega
  have hab : (a / 2 ^ (16 * i) % 2 ^ 16) * (b / 2 ^ (16 * k) % 2 ^ 16) ≤ 65535 * 65535 := Nat.mul_le_mul ha hb
  unfold maK
  rw [dg_nat, dg_nat, ← Int.natCast_mul]
  generalize (a / 2 ^ (16 * i) % 2 ^ 16) * (b / 2 ^ (16 * k) % 2 ^ 16) = p at *
  rw [wu_id (x := (p : Int)) (Int.natCast_nonneg _) (by omega), wu_id (by omega) (by omega)]
  refine ⟨h.set (by omega) (by omega) (by omega) (by omega), ?_⟩
  have hs := numI_set (w := 16) (l := d) (j := i + k) (d.getD (i + k) 0 + (p : Int)) hj
  have e : (d.getD (i + k) 0 + (p : Int)).toNat = (d.getD (i + k) 0).toNat + p := by omega
  have e2 : 2 ^ (16 * (i + k)) * ((d.getD (i + k) 0).toNat + p) = 2 ^ (16 * (i + k)) * (d.getD (i + k) 0).toNat + 2 ^ (16 * (i + k)) * p := Nat.mul_add _ _ _
  rw [e, e2] at hs
  omega
theorem maI_spec {a b i M : Nat} {d : List Int} (h : Bd d M) (hi : i < 16) (hM : M < 2 ^ 49) : ∀ k, k ≤ 16 → Bd (maI a b i d k) (M + k * 2 ^ 32) ∧
    numI 16 (maI a b i d k) = numI 16 d + 2 ^ (16 * i) * ((a / 2 ^ (16 * i) % 2 ^ 16) * (b % 2 ^ (16 * k)))
  | 0, _ => by
    simp only [Nat.mul_zero, Nat.pow_zero, Nat.mod_one, Nat.add_zero, Nat.zero_mul]
    exact ⟨h, rfl⟩
  | k + 1, hk => by
    obtain ⟨h1, h2⟩ := maI_spec (a := a) (b := b) h hi hM k (by omega)
    obtain ⟨h3, h4⟩ := maK_spec (a := a) (b := b) (k := k) h1 hi (by omega) (by
      have : k * 2 ^ 32 ≤ 16 * 2 ^ 32 := Nat.mul_le_mul_right _ (by omega)
      omega)
    refine ⟨?_, ?_⟩
    · have : M + (k + 1) * 2 ^ 32 = M + k * 2 ^ 32 + 2 ^ 32 := by omega
      rw [this]
      exact h3
    · show numI 16 (maK a b i k (maI a b i d k)) = _
      rw [h4, h2, mod_step 16 b k, show 16 * (i + k) = 16 * i + 16 * k by omega, Nat.pow_add]
      generalize a / 2 ^ (16 * i) % 2 ^ 16 = x
      generalize b / 2 ^ (16 * k) % 2 ^ 16 = y
      generalize 2 ^ (16 * i) = u
      generalize 2 ^ (16 * k) = v
      generalize b % v = z
      rw [Nat.mul_add, Nat.mul_add, Nat.add_assoc]
      congr 2
      simp only [Nat.mul_left_comm, Nat.mul_comm]
theorem maZ_spec {c i M : Nat} {d : List Int} (h : Bd d M) (hi : i < 16) (hM : M < 2 ^ 50) : Bd (maZ c i d) (M + 2 ^ 32) ∧ numI 16 (maZ c i d) = numI 16 d + 2 ^ (16 * i) * (c / 2 ^ (16 * i) % 2 ^ 16) := by
  have hj : i < d.length := by rw [h.1]; omega
  have h1 := h.2 i
  unfold maZ
  rw [dg_nat]
  have hc : c / 2 ^ (16 * i) % 2 ^ 16 ≤ 65535 := by omega
  generalize c / 2 ^ (16 * i) % 2 ^ 16 = p at *
  rw [wu_id (by omega) (by omega)]
  refine ⟨h.set (by omega) (by omega) (by omega) (by omega), ?_⟩
  have hs := numI_set (w := 16) (l := d) (j := i) (d.getD i 0 + (p : Int)) hj
  have e : (d.getD i 0 + (p : Int)).toNat = (d.getD i 0).toNat + p := by omega
  rw [e, Nat.mul_add] at hs
  omega
theorem numI_zeros (w : Nat) : ∀ n, numI w (List.replicate n 0) = 0
  | 0 => rfl
  | n + 1 => by simp [List.replicate_succ, numI, numI_zeros w n]
theorem maD_spec (a b c : Nat) : ∀ i, i ≤ 16 → Bd (maD a b c i) (i * (17 * 2 ^ 32)) ∧ numI 16 (maD a b c i) = (a % 2 ^ (16 * i)) * (b % 2 ^ 256) + c % 2 ^ (16 * i)
  | 0, _ => by
    refine ⟨⟨rfl, fun j => ?_⟩, ?_⟩
    · simp only [maD, List.getD, List.getElem?_replicate]
      split <;> simp
    · simp only [maD, numI_zeros, Nat.mul_zero, Nat.pow_zero, Nat.mod_one, Nat.zero_mul, Nat.add_zero]
  | i + 1, hi => by
    obtain ⟨h1, h2⟩ := maD_spec a b c i (by omega)
    have hM : i * (17 * 2 ^ 32) ≤ 16 * (17 * 2 ^ 32) := Nat.mul_le_mul_right _ (by omega)
    obtain ⟨h3, h4⟩ := maZ_spec (c := c) h1 (i := i) (by omega) (by omega)
    obtain ⟨h5, h6⟩ := maI_spec (a := a) (b := b) h3 (i := i) (by omega) (by omega) 16 (by omega)
    refine ⟨?_, ?_⟩
    · have : (i + 1) * (17 * 2 ^ 32) = i * (17 * 2 ^ 32) + 2 ^ 32 + 16 * 2 ^ 32 := by omega
      rw [this]
      exact h5
    · show numI 16 (maI a b i (maZ c i (maD a b c i)) 16) = _
      rw [h6, h4, h2, mod_step 16 a i, mod_step 16 c i]
      have e : (2 : Nat) ^ (16 * 16) = 2 ^ 256 := rfl
      rw [e]
      generalize a / 2 ^ (16 * i) % 2 ^ 16 = x
      generalize c / 2 ^ (16 * i) % 2 ^ 16 = y
      generalize 2 ^ (16 * i) = u
      generalize b % 2 ^ 256 = v
      generalize a % u = z
      generalize c % u = t
      rw [Nat.add_mul, Nat.mul_assoc]
      omega

/-- the bytes of so many digits, and what is over -/
def maA (d : List Int) : Nat → List Int × Int
  | 0 => ([], 0)
  | i + 1 => let n := wu (d.getD i 0 + (maA d i).2)
    ((maA d i).1 ++ [IntKind.wrap .u8 n, IntKind.wrap .u8 (n.fdiv (2 ^ 8))], n.fdiv (2 ^ 16))
theorem numI_take_succ {w : Nat} {l : List Int} {i : Nat} (hi : i < l.length) : numI w (l.take (i + 1)) = numI w (l.take i) + 2 ^ (w * i) * (l.getD i 0).toNat := by
  have hg : l.getD i 0 = l[i] := by simp [List.getD, List.getElem?_eq_getElem hi]
  rw [hg, List.take_add_one, List.getElem?_eq_getElem hi, numI_app]
  simp only [Option.toList_some, List.length_take, numI, Nat.mul_zero, Nat.add_zero]
  rw [Nat.min_eq_left (by omega)]
theorem maA_spec {d : List Int} {M : Nat} (h : Bd d M) (hM : M < 2 ^ 50) : ∀ i, i ≤ 33 → (maA d i).1.length = 2 * i ∧ InD 8 (maA d i).1 ∧ 0 ≤ (maA d i).2 ∧ (maA d i).2 ≤ 2 ^ 50 ∧
    numI 8 (maA d i).1 + 2 ^ (16 * i) * (maA d i).2.toNat = numI 16 (d.take i)
  | 0, _ => ⟨rfl, InD.nil 8, Int.le_refl _, by show (0 : Int) ≤ 2 ^ 50; decide, rfl⟩
  | i + 1, hi => by
    obtain ⟨h1, h2, h3, h4, h5⟩ := maA_spec h hM i (by omega)
    have hd := h.2 i
    simp only [maA]
    generalize (maA d i).2 = o at *
    generalize (maA d i).1 = acc at *
    rw [numI_take_succ (by rw [h.1]; omega), ← h5]
    generalize d.getD i 0 = x at *
    have hn : wu (x + o) = ((x.toNat + o.toNat : Nat) : Int) := by rw [wu_id (by omega) (by omega)]; omega
    rw [hn]
    have hlt : x.toNat + o.toNat < 2 ^ 52 := by omega
    have hsum : 2 ^ (16 * i) * (x.toNat + o.toNat) = 2 ^ (16 * i) * x.toNat + 2 ^ (16 * i) * o.toNat := Nat.mul_add _ _ _
    generalize x.toNat + o.toNat = n at *
    have e1 : ((n : Nat) : Int).fdiv (2 ^ 8) = ((n / 256 : Nat) : Int) := by rw [Int.fdiv_eq_ediv_of_nonneg _ (by decide)]; rfl
    have e2 : ((n : Nat) : Int).fdiv (2 ^ 16) = ((n / 65536 : Nat) : Int) := by rw [Int.fdiv_eq_ediv_of_nonneg _ (by decide)]; rfl
    rw [e1, e2, w8_nat, w8_nat]
    refine ⟨by simp [h1]; omega, ?_, Int.natCast_nonneg _, by omega, ?_⟩
    · intro a ha
      rcases List.mem_append.1 ha with ha | ha
      · exact h2 a ha
      · have hb : ((2 ^ 8 : Nat) : Int) = 256 := rfl
        rw [hb]
        rcases List.mem_cons.1 ha with rfl | ha
        · omega
        · rw [List.mem_singleton.1 ha]
          omega
    · rw [numI_app, h1]
      simp only [numI, Int.toNat_natCast, Nat.mul_zero, Nat.add_zero]
      have e3 : 8 * (2 * i) = 16 * i := by omega
      have e4 : 2 ^ (16 * (i + 1)) = 2 ^ (16 * i) * 65536 := by rw [show 16 * (i + 1) = 16 * i + 16 by omega, Nat.pow_add]
      rw [e3, e4, Nat.mul_assoc]
      have e5 : n = n % 256 + 256 * (n / 256 % 256) + 65536 * (n / 65536) := by omega
      have e6 : 2 ^ (16 * i) * n = 2 ^ (16 * i) * (n % 256 + 2 ^ 8 * (n / 256 % 256)) + 2 ^ (16 * i) * (65536 * (n / 65536)) := by
        rw [← Nat.mul_add]
        congr 1
      omega

theorem no_over {p q n o A B Z : Nat} (hp : p ≤ A) (hq : q ≤ B) (hZ : A + B < Z) (h : n + Z * o = p + q) : n = p + q := by
  rcases Nat.eq_zero_or_pos o with h0 | h0
  · subst h0; omega
  · exfalso
    have : Z * 1 ≤ Z * o := Nat.mul_le_mul_left _ h0
    omega
theorem pow528 (e f : Nat) (hf : f = e + e + 16) : 2 ^ e * 2 ^ e + 2 ^ e < 2 ^ f := by
  subst hf
  rw [Nat.pow_add, Nat.pow_add]
  have h3 : 0 < 2 ^ e := Nat.two_pow_pos e
  generalize 2 ^ e = q at *
  have h2 : q ≤ q * q := Nat.le_mul_of_pos_left _ h3
  generalize q * q = p at *
  omega
theorem last_g {x y c n o m Z : Nat} (hx : x < m) (hy : y < m) (hc : c < m) (hZ : m * m + m < Z) (h : n + Z * o = x * y + c) : n = x * y + c :=
  no_over (Nat.mul_le_mul (Nat.le_of_lt hx) (Nat.le_of_lt hy)) (Nat.le_of_lt hc) hZ h
theorem maA_last (a b c : Nat) : (maA (maD a b c 16) 33).1.length = 66 ∧ InD 8 (maA (maD a b c 16) 33).1 ∧ numI 8 (maA (maD a b c 16) 33).1 = (a % 2 ^ 256) * (b % 2 ^ 256) + c % 2 ^ 256 := by
  obtain ⟨h1, h2⟩ := maD_spec a b c 16 (by decide)
  obtain ⟨h3, h4, h5, h6, h7⟩ := maA_spec h1 (by decide) 33 (by decide)
  refine ⟨h3, h4, ?_⟩
  rw [List.take_of_length_le (by rw [h1.1]; exact Nat.le_refl _), h2] at h7
  have hz := pow528 256 (16 * 33) rfl
  have ha : a % 2 ^ 256 < 2 ^ 256 := Nat.mod_lt _ (Nat.two_pow_pos 256)
  have hb : b % 2 ^ 256 < 2 ^ 256 := Nat.mod_lt _ (Nat.two_pow_pos 256)
  have hc : c % 2 ^ 256 < 2 ^ 256 := Nat.mod_lt _ (Nat.two_pow_pos 256)
  generalize 2 ^ (16 * 33) = Z at hz h7
  generalize 2 ^ 256 = m at *
  exact last_g ha hb hc hz h7

end Go.Proofs.Ytahkpabndfaoiaa
