/-
Numbers in words: sums and products of words, and what they come to modulo the prime.
-/
import Derived.Test.YtahkpabndfaoiaaE11
import Derived.Laws.MathBits
namespace Fw
open Go Eng

def m64 : Nat := 18446744073709551616

/-- carries and borrows, as the model has them -/
def addS (x y c : Int) : Int := (((x.toNat + y.toNat + c.toNat) % 2 ^ 64 : Nat) : Int)
def addC (x y c : Int) : Int := (((x.toNat + y.toNat + c.toNat) / 2 ^ 64 : Nat) : Int)
def subS (x y b : Int) : Int := (((x.toNat + 2 ^ 64 - y.toNat - b.toNat) % 2 ^ 64 : Nat) : Int)
def subB (x y b : Int) : Int := ((if x.toNat < y.toNat + b.toNat then 1 else 0 : Nat) : Int)
def mulL (x y : Int) : Int := (x * y) % 18446744073709551616
def mulH (x y : Int) : Int := (x * y) / 18446744073709551616

/-- a word -/
def W (x : Int) : Prop := 0 ≤ x ∧ x < 18446744073709551616
def B (x : Int) : Prop := 0 ≤ x ∧ x ≤ 1

theorem addS_spec {x y c : Int} (hx : W x) (hy : W y) (hc : B c) : x + y + c = addS x y c + 18446744073709551616 * addC x y c ∧ W (addS x y c) ∧ B (addC x y c) := by
  unfold W B addS addC at *
  omega
theorem subS_spec {x y b : Int} (hx : W x) (hy : W y) (hb : B b) : x - y - b = subS x y b - 18446744073709551616 * subB x y b ∧ W (subS x y b) ∧ B (subB x y b) := by
  unfold W B subS subB at *
  split <;> omega
theorem mulH_spec {x y : Int} (hx : W x) (hy : W y) : x * y = mulL x y + 18446744073709551616 * mulH x y ∧ W (mulL x y) ∧ 0 ≤ mulH x y ∧ mulH x y ≤ 18446744073709551614 := by
  unfold W mulL mulH at *
  have h1 : 0 ≤ x * y := Int.mul_nonneg hx.1 hy.1
  have h2 : x * y ≤ 18446744073709551615 * 18446744073709551615 := Int.mul_le_mul (by omega) (by omega) hy.1 (by omega)
  omega

theorem b_toNat {b : Int} (h : B b) : b.toNat ≤ 1 := by unfold B at h; omega

/-- a number of four words -/
def val4 (a b c d : Int) : Int := a + 18446744073709551616 * b + 340282366920938463463374607431768211456 * c + 6277101735386680763835789423207666416102355444464034512896 * d

theorem dg_words {a b c d : Int} (ha : W a) (hb : W b) (hc : W c) (hd : W d) {x : Nat} (h : (x : Int) = val4 a b c d) : dg 64 x 0 = a ∧ dg 64 x 1 = b ∧ dg 64 x 2 = c ∧ dg 64 x 3 = d := by
  unfold W val4 dg at *
  simp only [Nat.mul_zero, Nat.pow_zero, Nat.div_one, Nat.mul_one, Nat.reduceMul, Nat.reducePow]
  omega

theorem words_dg (x : Nat) (h : x < 115792089237316195423570985008687907853269984665640564039457584007913129639936) : (x : Int) = val4 (dg 64 x 0) (dg 64 x 1) (dg 64 x 2) (dg 64 x 3) := by
  unfold val4 dg at *
  simp only [Nat.mul_zero, Nat.pow_zero, Nat.div_one, Nat.mul_one, Nat.reduceMul, Nat.reducePow]
  omega

theorem dg_W (x i : Nat) : W (dg 64 x i) := by
  unfold W dg
  have := Nat.mod_lt (x / 2 ^ (64 * i)) (show 0 < 2 ^ 64 by decide)
  simp only [Nat.reducePow] at this ⊢
  omega

theorem P_lit : ((Ec.P : Nat) : Int) = 57896044618658097711785492504343953926634992332820282019728792003956564819949 := rfl

/-- the model's own operations on words -/
def wr (x : Int) : Int := IntKind.wrap .u64 x
def andI (a b : Int) : Int := wr ((BitVec.ofInt 64 a &&& BitVec.ofInt 64 b).toNat)
def shrI (a n : Int) : Int := a.fdiv (2 ^ (min n.toNat 64))

theorem wr_mod (x : Int) : wr x = x % 18446744073709551616 := by
  unfold wr IntKind.wrap
  simp [IntKind.bits, IntKind.signed]
theorem wr_W (x : Int) : W (wr x) := by rw [wr_mod]; unfold W; omega
theorem wr_id {x : Int} (h : W x) : wr x = x := by rw [wr_mod]; unfold W at h; omega

theorem ofInt_toNat {a : Int} (h : W a) : (BitVec.ofInt 64 a).toNat = a.toNat := by
  unfold W at h
  rw [BitVec.toNat_ofInt]
  omega

theorem and_low {a : Int} (h : W a) (k : Nat) (hk : k ≤ 64) : andI a (((2 ^ k - 1 : Nat)) : Int) = a % ((2 ^ k : Nat) : Int) := by
  have hp : (2 : Nat) ^ k ≤ 2 ^ 64 := Nat.pow_le_pow_right (by decide) hk
  have hp' : (2 : Nat) ^ 64 = 18446744073709551616 := by decide
  have h0 : 0 < 2 ^ k := Nat.two_pow_pos k
  have hW : W (((2 ^ k - 1 : Nat)) : Int) := by unfold W; omega
  unfold andI
  rw [BitVec.toNat_and, ofInt_toNat h, ofInt_toNat hW, wr_id]
  · rw [Int.toNat_natCast, Nat.and_two_pow_sub_one_eq_mod]
    unfold W at h
    rw [show (a : Int) = ((a.toNat : Nat) : Int) from by omega]
    simp
  · rw [Int.toNat_natCast, Nat.and_two_pow_sub_one_eq_mod]
    unfold W at *
    have := Nat.mod_le a.toNat (2 ^ k)
    omega

theorem and32 {a : Int} (h : W a) : andI a 4294967295 = a % 4294967296 := by
  have := and_low h 32 (by decide)
  simpa using this
theorem and63 {a : Int} (h : W a) : andI a 9223372036854775807 = a % 9223372036854775808 := by
  have := and_low h 63 (by decide)
  simpa using this

theorem shr32 (a : Int) : shrI a 32 = a / 4294967296 := by
  unfold shrI
  rw [Int.fdiv_eq_ediv_of_nonneg _ (by decide)]
  rfl
theorem shr63 (a : Int) : shrI a 63 = a / 9223372036854775808 := by
  unfold shrI
  rw [Int.fdiv_eq_ediv_of_nonneg _ (by decide)]
  rfl

/-- the high word of a product, as Go's text has it -/
def mulX (x y : Int) : Int :=
  let x0 := andI x 4294967295
  let x1 := shrI x 32
  let y0 := andI y 4294967295
  let y1 := shrI y 32
  let w0 := wr (x0 * y0)
  let t := wr (wr (x1 * y0) + shrI w0 32)
  let w1 := andI t 4294967295
  let w2 := shrI t 32
  let w1' := wr (w1 + wr (x0 * y1))
  wr (wr (wr (x1 * y1) + w2) + shrI w1' 32)

theorem mulX_eq {x y : Int} (hx : W x) (hy : W y) : mulX x y = mulH x y := by
  have hx' := hx
  have hy' := hy
  unfold W at hx' hy'
  have key := mul64_arith x y hx'.1 hx'.2 hy'.1 hy'.2
  unfold mulX mulH
  simp only [and32 hx, and32 hy, shr32, and32 (wr_W _)]
  simp only [wr_mod]
  rw [← key]

/-- what is left when p is taken away, and the borrow -/
def lessR (a b c d : Int) : List Int × Int :=
  let r0 := subS a 18446744073709551597 0
  let c0 := subB a 18446744073709551597 0
  let r1 := subS b 18446744073709551615 c0
  let c1 := subB b 18446744073709551615 c0
  let r2 := subS c 18446744073709551615 c1
  let c2 := subB c 18446744073709551615 c1
  let r3 := subS d 9223372036854775807 c2
  let c3 := subB d 9223372036854775807 c2
  ([r0, r1, r2, r3], c3)

theorem W_lit {n : Int} (h0 : 0 ≤ n) (h1 : n < 18446744073709551616) : W n := ⟨h0, h1⟩
theorem B0 : B 0 := ⟨by decide, by decide⟩
theorem B1 : B 1 := ⟨by decide, by decide⟩

theorem lessR_spec {a b c d : Int} (ha : W a) (hb : W b) (hc : W c) (hd : W d) : ∃ r0 r1 r2 r3 c3, lessR a b c d = ([r0, r1, r2, r3], c3) ∧ W r0 ∧ W r1 ∧ W r2 ∧ W r3 ∧ B c3 ∧
    val4 a b c d - Ec.P = val4 r0 r1 r2 r3 - 115792089237316195423570985008687907853269984665640564039457584007913129639936 * c3 := by
  have h0 := subS_spec ha (W_lit (n := 18446744073709551597) (by decide) (by decide)) B0
  have h1 := subS_spec hb (W_lit (n := 18446744073709551615) (by decide) (by decide)) h0.2.2
  have h2 := subS_spec hc (W_lit (n := 18446744073709551615) (by decide) (by decide)) h1.2.2
  have h3 := subS_spec hd (W_lit (n := 9223372036854775807) (by decide) (by decide)) h2.2.2
  refine ⟨_, _, _, _, _, rfl, h0.2.1, h1.2.1, h2.2.1, h3.2.1, h3.2.2, ?_⟩
  have e0 := h0.1
  have e1 := h1.1
  have e2 := h2.1
  have e3 := h3.1
  rw [P_lit]
  unfold val4
  omega

theorem val4_nn {a b c d : Int} (ha : W a) (hb : W b) (hc : W c) (hd : W d) : 0 ≤ val4 a b c d ∧ val4 a b c d < 115792089237316195423570985008687907853269984665640564039457584007913129639936 := by
  unfold W val4 at *
  omega

/-- words of a number modulo p -/
theorem words_mod {a b c d : Int} (ha : W a) (hb : W b) (hc : W c) (hd : W d) {n : Nat} (h : val4 a b c d = ((n % Ec.P : Nat) : Int)) : [dg 64 (n % Ec.P) 0, dg 64 (n % Ec.P) 1, dg 64 (n % Ec.P) 2, dg 64 (n % Ec.P) 3] = [a, b, c, d] := by
  obtain ⟨e0, e1, e2, e3⟩ := dg_words ha hb hc hd h.symm
  rw [e0, e1, e2, e3]

/-- p taken away or not: the number modulo p -/
theorem less_mod {a b c d : Int} (ha : W a) (hb : W b) (hc : W c) (hd : W d) (hN : val4 a b c d < 2 * Ec.P) :
    ((lessR a b c d).2 = 0 → [dg 64 ((val4 a b c d).toNat % Ec.P) 0, dg 64 ((val4 a b c d).toNat % Ec.P) 1, dg 64 ((val4 a b c d).toNat % Ec.P) 2, dg 64 ((val4 a b c d).toNat % Ec.P) 3] = (lessR a b c d).1) ∧
    ((lessR a b c d).2 ≠ 0 → [dg 64 ((val4 a b c d).toNat % Ec.P) 0, dg 64 ((val4 a b c d).toNat % Ec.P) 1, dg 64 ((val4 a b c d).toNat % Ec.P) 2, dg 64 ((val4 a b c d).toNat % Ec.P) 3] = [a, b, c, d]) := by
  obtain ⟨r0, r1, r2, r3, c3, e, w0, w1, w2, w3, hb3, hv⟩ := lessR_spec ha hb hc hd
  have hn := val4_nn ha hb hc hd
  have hr := val4_nn w0 w1 w2 w3
  have hP : (Ec.P : Int) = 57896044618658097711785492504343953926634992332820282019728792003956564819949 := P_lit
  rw [e]
  generalize hV : val4 a b c d = N at *
  constructor
  · intro h
    refine words_mod w0 w1 w2 w3 ?_
    simp only at h
    subst h
    have : (N.toNat : Int) = N := Int.toNat_of_nonneg hn.1
    have h1 : N.toNat % Ec.P = N.toNat - Ec.P := by
      rw [Nat.mod_eq_sub_mod (by omega), Nat.mod_eq_of_lt (by omega)]
    rw [h1]
    omega
  · intro h
    have : (N.toNat : Int) = N := Int.toNat_of_nonneg hn.1
    have hc3 : c3 = 1 := by
      simp only at h
      unfold B at hb3
      omega
    subst hc3
    have h1 : N.toNat % Ec.P = N.toNat := Nat.mod_eq_of_lt (by omega)
    exact words_mod ha hb hc hd (by rw [hV, h1, this])

theorem mod_val {n : Nat} {x : Fin Ec.P} (h : n % Ec.P = x.val) : [dg 64 (n % Ec.P) 0, dg 64 (n % Ec.P) 1, dg 64 (n % Ec.P) 2, dg 64 (n % Ec.P) 3] = [dg 64 x.val 0, dg 64 x.val 1, dg 64 x.val 2, dg 64 x.val 3] := by rw [h]

/-- a sum of words, words of numbers below p -/
def addW (a b c d e f g h : Int) : List Int × Int :=
  let s0 := addS a e 0
  let c0 := addC a e 0
  let s1 := addS b f c0
  let c1 := addC b f c0
  let s2 := addS c g c1
  let c2 := addC c g c1
  ([s0, s1, s2, addS d h c2], addC d h c2)

theorem addW_spec {a b c d e f g h : Int} (ha : W a) (hb : W b) (hc : W c) (hd : W d) (he : W e) (hf : W f) (hg : W g) (hh : W h) :
    ∃ s0 s1 s2 s3 k, addW a b c d e f g h = ([s0, s1, s2, s3], k) ∧ W s0 ∧ W s1 ∧ W s2 ∧ W s3 ∧ B k ∧ val4 a b c d + val4 e f g h = val4 s0 s1 s2 s3 + 115792089237316195423570985008687907853269984665640564039457584007913129639936 * k := by
  have h0 := addS_spec ha he B0
  have h1 := addS_spec hb hf h0.2.2
  have h2 := addS_spec hc hg h1.2.2
  have h3 := addS_spec hd hh h2.2.2
  refine ⟨_, _, _, _, _, rfl, h0.2.1, h1.2.1, h2.2.1, h3.2.1, h3.2.2, ?_⟩
  have e0 := h0.1
  have e1 := h1.1
  have e2 := h2.1
  have e3 := h3.1
  unfold val4
  omega

/-- p less a number -/
def negW (a b c d : Int) : List Int × Int :=
  let r0 := subS 18446744073709551597 a 0
  let c0 := subB 18446744073709551597 a 0
  let r1 := subS 18446744073709551615 b c0
  let c1 := subB 18446744073709551615 b c0
  let r2 := subS 18446744073709551615 c c1
  let c2 := subB 18446744073709551615 c c1
  ([r0, r1, r2, subS 9223372036854775807 d c2], subB 9223372036854775807 d c2)

theorem negW_spec {a b c d : Int} (ha : W a) (hb : W b) (hc : W c) (hd : W d) : ∃ r0 r1 r2 r3 c3, negW a b c d = ([r0, r1, r2, r3], c3) ∧ W r0 ∧ W r1 ∧ W r2 ∧ W r3 ∧ B c3 ∧
    Ec.P - val4 a b c d = val4 r0 r1 r2 r3 - 115792089237316195423570985008687907853269984665640564039457584007913129639936 * c3 := by
  have h0 := subS_spec (W_lit (n := 18446744073709551597) (by decide) (by decide)) ha B0
  have h1 := subS_spec (W_lit (n := 18446744073709551615) (by decide) (by decide)) hb h0.2.2
  have h2 := subS_spec (W_lit (n := 18446744073709551615) (by decide) (by decide)) hc h1.2.2
  have h3 := subS_spec (W_lit (n := 9223372036854775807) (by decide) (by decide)) hd h2.2.2
  refine ⟨_, _, _, _, _, rfl, h0.2.1, h1.2.1, h2.2.1, h3.2.1, h3.2.2, ?_⟩
  have e0 := h0.1
  have e1 := h1.1
  have e2 := h2.1
  have e3 := h3.1
  rw [P_lit]
  unfold val4
  omega

/-- one product of two words, added to two others: the lower word and the upper one -/
def macL (x y w o : Int) : Int := addS (addS (mulL x y) w 0) o 0
def macH (x y w o : Int) : Int := wr (wr (mulH x y + addC (mulL x y) w 0) + addC (addS (mulL x y) w 0) o 0)

theorem mac_spec {x y w o : Int} (hx : W x) (hy : W y) (hw : W w) (ho : W o) : x * y + w + o = macL x y w o + 18446744073709551616 * macH x y w o ∧ W (macL x y w o) ∧ W (macH x y w o) := by
  have h0 := mulH_spec hx hy
  have h1 := addS_spec h0.2.1 hw B0
  have h2 := addS_spec h1.2.1 ho B0
  have p : x * y ≤ 18446744073709551615 * 18446744073709551615 := Int.mul_le_mul (by unfold W at hx; omega) (by unfold W at hy; omega) hy.1 (by omega)
  unfold macL macH
  have e0 := h0.1
  have e1 := h1.1
  have e2 := h2.1
  have b1 := h1.2.2
  have b2 := h2.2.2
  have w2 := h2.2.1
  have hh := h0.2.2
  generalize mulH x y = H at *
  generalize addC (mulL x y) w 0 = C at *
  generalize addC (addS (mulL x y) w 0) o 0 = D at *
  generalize addS (addS (mulL x y) w 0) o 0 = L at *
  generalize addS (mulL x y) w 0 = M at *
  generalize mulL x y = N at *
  generalize x * y = Q at *
  have w1 : W (H + C) := by unfold W B at *; omega
  rw [wr_id w1]
  have w3 : W (H + C + D) := by unfold W B at *; omega
  rw [wr_id w3]
  exact ⟨by omega, w2, w3⟩

/-- a row of products -/
def rowW (x : Int) (y0 y1 y2 y3 w0 w1 w2 w3 : Int) : List Int :=
  let o0 := macH x y0 w0 0
  let o1 := macH x y1 w1 o0
  let o2 := macH x y2 w2 o1
  [macL x y0 w0 0, macL x y1 w1 o0, macL x y2 w2 o1, macL x y3 w3 o2, macH x y3 w3 o2]

theorem W0 : W 0 := ⟨by decide, by decide⟩

theorem rowW_spec {x y0 y1 y2 y3 w0 w1 w2 w3 : Int} (hx : W x) (h0 : W y0) (h1 : W y1) (h2 : W y2) (h3 : W y3) (g0 : W w0) (g1 : W w1) (g2 : W w2) (g3 : W w3) :
    ∃ l0 l1 l2 l3 o, rowW x y0 y1 y2 y3 w0 w1 w2 w3 = [l0, l1, l2, l3, o] ∧ W l0 ∧ W l1 ∧ W l2 ∧ W l3 ∧ W o ∧
      x * val4 y0 y1 y2 y3 + val4 w0 w1 w2 w3 = val4 l0 l1 l2 l3 + 115792089237316195423570985008687907853269984665640564039457584007913129639936 * o := by
  have m0 := mac_spec hx h0 g0 W0
  have m1 := mac_spec hx h1 g1 m0.2.2
  have m2 := mac_spec hx h2 g2 m1.2.2
  have m3 := mac_spec hx h3 g3 m2.2.2
  refine ⟨_, _, _, _, _, rfl, m0.2.1, m1.2.1, m2.2.1, m3.2.1, m3.2.2, ?_⟩
  have e0 := m0.1
  have e1 := m1.1
  have e2 := m2.1
  have e3 := m3.1
  have : x * val4 y0 y1 y2 y3 = x * y0 + 18446744073709551616 * (x * y1) + 340282366920938463463374607431768211456 * (x * y2) + 6277101735386680763835789423207666416102355444464034512896 * (x * y3) := by unfold val4; grind
  rw [this]
  unfold val4
  omega

/-- eight words of a product -/
def mul8 (x0 x1 x2 x3 y0 y1 y2 y3 : Int) : List Int :=
  match rowW x0 y0 y1 y2 y3 0 0 0 0 with
  | [a0, a1, a2, a3, a4] => match rowW x1 y0 y1 y2 y3 a1 a2 a3 a4 with
    | [b0, b1, b2, b3, b4] => match rowW x2 y0 y1 y2 y3 b1 b2 b3 b4 with
      | [c0, c1, c2, c3, c4] => match rowW x3 y0 y1 y2 y3 c1 c2 c3 c4 with
        | [d0, d1, d2, d3, d4] => [a0, b0, c0, d0, d1, d2, d3, d4]
        | _ => []
      | _ => []
    | _ => []
  | _ => []

theorem mul8_spec {x0 x1 x2 x3 y0 y1 y2 y3 : Int} (hx : W x0 ∧ W x1 ∧ W x2 ∧ W x3) (hy : W y0 ∧ W y1 ∧ W y2 ∧ W y3) :
    ∃ l0 l1 l2 l3 h0 h1 h2 h3, mul8 x0 x1 x2 x3 y0 y1 y2 y3 = [l0, l1, l2, l3, h0, h1, h2, h3] ∧ (W l0 ∧ W l1 ∧ W l2 ∧ W l3) ∧ (W h0 ∧ W h1 ∧ W h2 ∧ W h3) ∧
      val4 x0 x1 x2 x3 * val4 y0 y1 y2 y3 = val4 l0 l1 l2 l3 + 115792089237316195423570985008687907853269984665640564039457584007913129639936 * val4 h0 h1 h2 h3 := by
  obtain ⟨hx0, hx1, hx2, hx3⟩ := hx
  obtain ⟨hy0, hy1, hy2, hy3⟩ := hy
  obtain ⟨a0, a1, a2, a3, a4, ea, p0, p1, p2, p3, p4, pe⟩ := rowW_spec hx0 hy0 hy1 hy2 hy3 W0 W0 W0 W0
  obtain ⟨b0, b1, b2, b3, b4, eb, q0, q1, q2, q3, q4, qe⟩ := rowW_spec hx1 hy0 hy1 hy2 hy3 p1 p2 p3 p4
  obtain ⟨c0, c1, c2, c3, c4, ec, r0, r1, r2, r3, r4, re⟩ := rowW_spec hx2 hy0 hy1 hy2 hy3 q1 q2 q3 q4
  obtain ⟨d0, d1, d2, d3, d4, ed, s0, s1, s2, s3, s4, se⟩ := rowW_spec hx3 hy0 hy1 hy2 hy3 r1 r2 r3 r4
  refine ⟨a0, b0, c0, d0, d1, d2, d3, d4, ?_, ⟨p0, q0, r0, s0⟩, ⟨s1, s2, s3, s4⟩, ?_⟩
  · unfold mul8
    simp only [ea, eb, ec, ed]
  · have : val4 x0 x1 x2 x3 * val4 y0 y1 y2 y3 = x0 * val4 y0 y1 y2 y3 + 18446744073709551616 * (x1 * val4 y0 y1 y2 y3) + 340282366920938463463374607431768211456 * (x2 * val4 y0 y1 y2 y3) + 6277101735386680763835789423207666416102355444464034512896 * (x3 * val4 y0 y1 y2 y3) := by
      generalize val4 y0 y1 y2 y3 = Y
      unfold val4; grind
    rw [this]
    generalize x0 * val4 y0 y1 y2 y3 = A at *
    generalize x1 * val4 y0 y1 y2 y3 = B at *
    generalize x2 * val4 y0 y1 y2 y3 = C at *
    generalize x3 * val4 y0 y1 y2 y3 = D at *
    unfold val4 at *
    omega

/-- a number of four words, and what stands above them, below 2^255 and a little more -/
def foldU (a b c d k : Int) : List Int :=
  let lo := mulL k 38
  let hi := mulH k 38
  let top := shrI d 63
  let d0 := andI d 9223372036854775807
  let s0 := addS a lo 0
  let c0 := addC a lo 0
  let s1 := addS b hi c0
  let c1 := addC b hi c0
  let s2 := addS c 0 c1
  let s3 := wr (d0 + addC c 0 c1)
  let t := wr (19 * top)
  (addW s0 s1 s2 s3 t 0 0 0).1

def foldV (a b c d : Int) : List Int :=
  (addW a b c (andI d 9223372036854775807) (wr (19 * shrI d 63)) 0 0 0).1

theorem shr63_W {d : Int} (h : W d) : B (shrI d 63) := by
  rw [shr63]; unfold W B at *; omega
theorem split63 {d : Int} (h : W d) : d = andI d 9223372036854775807 + 9223372036854775808 * shrI d 63 ∧ 0 ≤ andI d 9223372036854775807 ∧ andI d 9223372036854775807 < 9223372036854775808 := by
  rw [shr63, and63 h]; unfold W at *; omega

theorem foldV_spec {a b c d : Int} (ha : W a) (hb : W b) (hc : W c) (hd : W d) : ∃ r0 r1 r2 r3, foldV a b c d = [r0, r1, r2, r3] ∧ W r0 ∧ W r1 ∧ W r2 ∧ W r3 ∧
    val4 a b c d = val4 r0 r1 r2 r3 + Ec.P * shrI d 63 ∧ val4 r0 r1 r2 r3 ≤ 57896044618658097711785492504343953926634992332820282019728792003956564819986 := by
  obtain ⟨e, n0, n1⟩ := split63 hd
  have ht := shr63_W hd
  have w1 : W (andI d 9223372036854775807) := by unfold W; omega
  have w2 : W (wr (19 * shrI d 63)) := wr_W _
  have e2 : wr (19 * shrI d 63) = 19 * shrI d 63 := wr_id (by unfold W B at *; omega)
  obtain ⟨s0, s1, s2, s3, k, ek, p0, p1, p2, p3, pk, pe⟩ := addW_spec ha hb hc w1 w2 W0 W0 W0
  refine ⟨s0, s1, s2, s3, by unfold foldV; rw [ek], p0, p1, p2, p3, ?_⟩
  rw [e2] at pe
  rw [P_lit]
  have hv := val4_nn ha hb hc w1
  unfold val4 at *
  generalize shrI d 63 = t at *
  generalize andI d 9223372036854775807 = d0 at *
  unfold W B at *
  omega

theorem foldU_spec {a b c d k : Int} (ha : W a) (hb : W b) (hc : W c) (hd : W d) (hk : W k) : ∃ r0 r1 r2 r3, foldU a b c d k = [r0, r1, r2, r3] ∧ W r0 ∧ W r1 ∧ W r2 ∧ W r3 ∧
    val4 a b c d + 115792089237316195423570985008687907853269984665640564039457584007913129639936 * k = val4 r0 r1 r2 r3 + Ec.P * (shrI d 63 + 2 * k) := by
  obtain ⟨e, n0, n1⟩ := split63 hd
  have ht := shr63_W hd
  have m := mulH_spec hk (W_lit (n := 38) (by decide) (by decide))
  have mh : W (mulH k 38) := by unfold W; omega
  have h0 := addS_spec ha m.2.1 B0
  have h1 := addS_spec hb mh h0.2.2
  have h2 := addS_spec hc W0 h1.2.2
  have w3 : W (andI d 9223372036854775807 + addC c 0 (addC b (mulH k 38) (addC a (mulL k 38) 0))) := by
    have := h2.2.2
    unfold W B at *
    omega
  have e3 := wr_id w3
  have w2 : W (wr (19 * shrI d 63)) := wr_W _
  have e2 : wr (19 * shrI d 63) = 19 * shrI d 63 := wr_id (by unfold W B at *; omega)
  obtain ⟨s0, s1, s2, s3, q, ek, p0, p1, p2, p3, pk, pe⟩ := addW_spec h0.2.1 h1.2.1 h2.2.1 (wr_W _) w2 W0 W0 W0
  refine ⟨s0, s1, s2, s3, by unfold foldU; simp only []; rw [ek], p0, p1, p2, p3, ?_⟩
  rw [e2, e3] at pe
  rw [P_lit]
  have a0 := h0.1
  have a1 := h1.1
  have a2 := h2.1
  have b0 := h0.2.1
  have b1 := h1.2.1
  have b2 := h2.2.1
  have b3 := h2.2.2
  have m1 := m.1
  unfold val4 at *
  generalize shrI d 63 = t at *
  generalize andI d 9223372036854775807 = d0 at *
  generalize addC c 0 (addC b (mulH k 38) (addC a (mulL k 38) 0)) = z2 at *
  generalize addS c 0 (addC b (mulH k 38) (addC a (mulL k 38) 0)) = y2 at *
  generalize addC b (mulH k 38) (addC a (mulL k 38) 0) = z1 at *
  generalize addS b (mulH k 38) (addC a (mulL k 38) 0) = y1 at *
  generalize addC a (mulL k 38) 0 = z0 at *
  generalize addS a (mulL k 38) 0 = y0 at *
  generalize mulH k 38 = mh' at *
  generalize mulL k 38 = ml' at *
  unfold W B at *
  omega

/-- four words below 2^255 and a little more, of a number modulo p -/
theorem fold_mod {N V : Int} {q : Int} (h : N = V + Ec.P * q) (hN : 0 ≤ N) (hV : 0 ≤ V) (hq : 0 ≤ q) : N.toNat % Ec.P = V.toNat % Ec.P := by
  have h1 : N.toNat = V.toNat + Ec.P * q.toNat := by
    have e1 : ((Ec.P * q.toNat : Nat) : Int) = Ec.P * q := by rw [Int.natCast_mul, Int.toNat_of_nonneg hq]
    omega
  rw [h1, Nat.add_mul_mod_self_left]

/-- the upper half, 38 times, and the lower one -/
def redW (l0 l1 l2 l3 h0 h1 h2 h3 : Int) : List Int :=
  let o0 := macH h0 38 l0 0
  let o1 := macH h1 38 l1 o0
  let o2 := macH h2 38 l2 o1
  [macL h0 38 l0 0, macL h1 38 l1 o0, macL h2 38 l2 o1, macL h3 38 l3 o2, macH h3 38 l3 o2]

theorem redW_spec {l0 l1 l2 l3 h0 h1 h2 h3 : Int} (hl : W l0 ∧ W l1 ∧ W l2 ∧ W l3) (hh : W h0 ∧ W h1 ∧ W h2 ∧ W h3) : ∃ r0 r1 r2 r3 o, redW l0 l1 l2 l3 h0 h1 h2 h3 = [r0, r1, r2, r3, o] ∧ (W r0 ∧ W r1 ∧ W r2 ∧ W r3 ∧ W o) ∧
    val4 l0 l1 l2 l3 + 38 * val4 h0 h1 h2 h3 = val4 r0 r1 r2 r3 + 115792089237316195423570985008687907853269984665640564039457584007913129639936 * o := by
  obtain ⟨hl0, hl1, hl2, hl3⟩ := hl
  obtain ⟨hh0, hh1, hh2, hh3⟩ := hh
  have w38 : W 38 := W_lit (by decide) (by decide)
  have m0 := mac_spec hh0 w38 hl0 W0
  have m1 := mac_spec hh1 w38 hl1 m0.2.2
  have m2 := mac_spec hh2 w38 hl2 m1.2.2
  have m3 := mac_spec hh3 w38 hl3 m2.2.2
  refine ⟨_, _, _, _, _, rfl, ⟨m0.2.1, m1.2.1, m2.2.1, m3.2.1, m3.2.2⟩, ?_⟩
  have e0 := m0.1
  have e1 := m1.1
  have e2 := m2.1
  have e3 := m3.1
  unfold val4
  omega

end Fw
