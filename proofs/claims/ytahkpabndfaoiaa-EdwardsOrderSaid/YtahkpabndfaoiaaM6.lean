/-
Square roots modulo a prime that is five more than a multiple of eight.
-/
import Derived.Test.YtahkpabndfaoiaaM5
namespace Ec

section
variable {n : Nat} [NeZero n]

def evenI (x : Fin n) : Fin n := cond (x.val % 2 == 1) (-x) x
def isR (u v x : Fin n) : Bool := decide (v * (x * x) = u)
def rootR (m : Nat) (u v : Fin n) : Fin n := (u * inv v) ^ (m + 1)
def rootS (m : Nat) : Fin n := 2 ^ (2 * m + 1)
/-- the even root of u / v, and is there one? -/
def root (m : Nat) (u v : Fin n) : Fin n × Bool :=
  cond (isR u v (rootR m u v)) (evenI (rootR m u v), true) (cond (isR u v (rootR m u v * rootS m)) (evenI (rootR m u v * rootS m), true) (0, false))

theorem val_neg (x : Fin n) (h : x ≠ 0) : (-x).val = n - x.val := by
  have hx : 0 < x.val := Nat.pos_of_ne_zero fun e => h (Fin.ext (by simpa using e))
  have hl := x.isLt
  rw [Fin.val_neg, if_neg h]

theorem neg_zero' : (-0 : Fin n) = 0 := by grind
theorem neg_neg' (x : Fin n) : - -x = x := by grind
theorem neg_ne {x : Fin n} (h : x ≠ 0) : -x ≠ 0 := fun e => h (by have := congrArg (- ·) e; simp only [neg_neg', neg_zero'] at this; exact this)

theorem evenI_neg (hn : n % 2 = 1) (x : Fin n) : evenI (-x) = evenI x := by
  by_cases h : x = 0
  · subst h; rw [neg_zero']
  · unfold evenI
    have hl := x.isLt
    rw [val_neg x h, neg_neg']
    have : x.val % 2 = 0 ∨ x.val % 2 = 1 := by omega
    rcases this with h1 | h1
    · rw [h1, show (n - x.val) % 2 = 1 by omega]; rfl
    · rw [h1, show (n - x.val) % 2 = 0 by omega]; rfl

omit [NeZero n] in
theorem evenI_or (x : Fin n) : evenI x = x ∨ evenI x = -x := by
  unfold evenI
  cases (x.val % 2 == 1)
  · exact .inl rfl
  · exact .inr rfl
theorem evenI_even (hn : n % 2 = 1) (x : Fin n) : (evenI x).val % 2 = 0 := by
  unfold evenI
  have hl := x.isLt
  have : x.val % 2 = 0 ∨ x.val % 2 = 1 := by omega
  rcases this with h1 | h1
  · rw [h1]; exact h1
  · have h : x ≠ 0 := by rintro rfl; simp at h1
    rw [h1]
    show (-x).val % 2 = 0
    rw [val_neg x h]
    omega
theorem evenI_sq (x : Fin n) : evenI x * evenI x = x * x := by
  rcases evenI_or x with h | h <;> rw [h]
  grind
omit [NeZero n] in
theorem evenI_id {x : Fin n} (h : x.val % 2 = 0) : evenI x = x := by unfold evenI; rw [h]; rfl

theorem pow_add' (x : Fin n) (a b : Nat) : x ^ a * x ^ b = x ^ (a + b) := by
  refine Fin.ext ?_
  rw [Fin.val_mul, val_pow, val_pow, val_pow, ← Nat.mul_mod, ← Nat.pow_add]
theorem mul_pow' (x y : Fin n) (a : Nat) : (x * y) ^ a = x ^ a * y ^ a := by
  refine Fin.ext ?_
  rw [Fin.val_mul, val_pow, val_pow, val_pow, Fin.val_mul, ← Nat.mul_mod, ← Nat.mul_pow, ← Nat.pow_mod]
theorem pow_one' (x : Fin n) : x ^ 1 = x := by grind
theorem zero_pow' (a : Nat) : (0 : Fin n) ^ (a + 1) = 0 := by rw [← pow_add', pow_one']; grind

variable (F : Fld n) {m : Nat} (hn : n = 8 * m + 5) (h2 : (2 : Fin n) ^ (4 * m + 2) = -1)
include F

theorem Fld.sq_eq {x y : Fin n} (h : x * x = y * y) : x = y ∨ x = -y := by
  have : (x - y) * (x + y) = 0 := by grind
  rcases F.or_of_mul this with h | h
  · exact .inl (by grind)
  · exact .inr (by grind)
omit F in
theorem even_of_sq (hodd : n % 2 = 1) {x y : Fin n} (h : x = y ∨ x = -y) : evenI x = evenI y := by
  rcases h with h | h
  · rw [h]
  · rw [h, evenI_neg hodd]

theorem Fld.isR_iff {u v x : Fin n} (hv : v ≠ 0) : isR u v x = decide (x * x = u * inv v) := by
  unfold isR
  refine decide_eq_decide.2 ⟨fun h => ?_, fun h => ?_⟩
  · have := F.mul_inv hv; rw [← h]; grind
  · have := F.mul_inv hv; rw [h]; grind

include hn
omit F hn in
theorem rr (q : Fin n) : q ^ (m + 1) * q ^ (m + 1) = q * q ^ (2 * m + 1) := by
  have := pow_add' q 1 (2 * m + 1)
  rw [pow_one'] at this
  rw [this, pow_add']
  congr 1
  omega
omit F hn in
theorem ss (q : Fin n) : q ^ (2 * m + 1) * q ^ (2 * m + 1) = q ^ (4 * m + 2) := by
  rw [pow_add']
  congr 1
  omega
theorem Fld.half_or {x : Fin n} (hx : x ≠ 0) : x ^ (4 * m + 2) = 1 ∨ x ^ (4 * m + 2) = -1 := by
  have h := F.fermat x hx
  have e : n - 1 = (4 * m + 2) + (4 * m + 2) := by omega
  rw [e, ← pow_add'] at h
  have := F.sq_eq (x := x ^ (4 * m + 2)) (y := 1) (by rw [h]; grind)
  exact this

include h2
theorem Fld.root_of {u v x : Fin n} (hv : v ≠ 0) (h : v * (x * x) = u) : root m u v = (evenI x, true) := by
  have hq : u * inv v = x * x := by
    have := F.mul_inv hv; rw [← h]; grind
  have hodd : n % 2 = 1 := by omega
  unfold root
  simp only [F.isR_iff hv]
  unfold rootR rootS
  rw [hq]
  generalize hr : (x * x) ^ (m + 1) = r
  have h0 := rr (m := m) (x * x)
  rw [hr] at h0
  have h1 := ss (m := m) (2 : Fin n)
  rw [h2] at h1
  by_cases hx : x = 0
  · subst hx
    have hr0 : r * r = 0 * 0 := by grind
    rw [show decide (r * r = 0 * 0) = true from decide_eq_true hr0]
    have : r = 0 := F.sq_zero (by rw [hr0]; grind)
    subst this
    rfl
  · have hxx : (x * x) ^ (2 * m + 1) = x ^ (4 * m + 2) := by
      rw [mul_pow', pow_add']; congr 1; omega
    rw [hxx] at h0
    have ht := F.mul_ne hx hx
    rcases F.half_or hn hx with e | e
    · have hs : r * r = x * x := by rw [h0, e]; grind
      rw [show decide (r * r = x * x) = true from decide_eq_true hs]
      show (evenI r, true) = _
      rw [even_of_sq hodd (F.sq_eq hs)]
    · have hs : r * r = -(x * x) := by rw [h0, e]; grind
      have hne : ¬ r * r = x * x := by
        intro e2
        rw [hs] at e2
        have : 2 * (x * x) = 0 := by grind
        exact F.mul_ne F.two_ne ht this
      rw [show decide (r * r = x * x) = false from decide_eq_false hne]
      generalize hS : (2 : Fin n) ^ (2 * m + 1) = S at *
      have hs2 : r * S * (r * S) = x * x := by grind
      rw [show decide (r * S * (r * S) = x * x) = true from decide_eq_true hs2]
      show (evenI (r * S), true) = _
      rw [even_of_sq hodd (F.sq_eq hs2)]

omit h2 F in
theorem root_is {u v : Fin n} (h : (root m u v).2 = true) : v * ((root m u v).1 * (root m u v).1) = u ∧ (root m u v).1.val % 2 = 0 := by
  have hodd : n % 2 = 1 := by omega
  unfold root at *
  cases h1 : isR u v (rootR m u v) with
  | true =>
    simp only [cond_true]
    rw [evenI_sq]
    exact ⟨of_decide_eq_true h1, evenI_even hodd _⟩
  | false =>
    rw [h1] at h
    simp only [cond_false] at h ⊢
    cases h3 : isR u v (rootR m u v * rootS m) with
    | true =>
      simp only [cond_true]
      rw [evenI_sq]
      exact ⟨of_decide_eq_true h3, evenI_even hodd _⟩
    | false => rw [h3] at h; cases h

/-- the same, by what a square's power tells -/
def root2 (m : Nat) (u v : Fin n) : Fin n × Bool :=
  cond (decide (v = 0)) (0, decide (u = 0)) (
    let q := u * inv v
    cond (decide (q = 0)) (q, true) (cond (!decide (q ^ (4 * m + 2) = 1)) (0, false) (
      let x := q * q ^ m
      cond (!decide (x * x = q)) (evenI (x * rootS m), true) (evenI x, true))))

omit F hn h2 in
theorem evenI_zero : evenI (0 : Fin n) = 0 := rfl

theorem Fld.root2_eq (u v : Fin n) : root2 m u v = root m u v := by
  have hodd : n % 2 = 1 := by omega
  unfold root2
  by_cases hv : v = 0
  · subst hv
    rw [show decide ((0 : Fin n) = 0) = true from decide_eq_true rfl]
    simp only [cond_true]
    unfold root
    have hi : ∀ x : Fin n, isR u 0 x = decide (u = 0) := by
      intro x; unfold isR
      refine decide_eq_decide.2 ⟨fun h => by rw [← h]; grind, fun h => by rw [h]; grind⟩
    simp only [hi]
    have : rootR m u 0 = 0 := by
      unfold rootR
      rw [F.inv_zero, show u * 0 = 0 by grind, zero_pow']
    rw [this]
    by_cases hu : u = 0
    · rw [show decide (u = 0) = true from decide_eq_true hu]; rfl
    · rw [show decide (u = 0) = false from decide_eq_false hu]; rfl
  · rw [show decide (v = 0) = false from decide_eq_false hv]
    simp only [cond_false]
    unfold root
    simp only [F.isR_iff hv]
    unfold rootR
    generalize u * inv v = q
    have h0 := rr (m := m) q
    have hqm : q * q ^ m = q ^ (m + 1) := by
      have := pow_add' q 1 m
      rw [pow_one'] at this
      rw [this, Nat.add_comm]
    rw [hqm]
    by_cases hq : q = 0
    · subst hq
      rw [show decide ((0 : Fin n) = 0) = true from decide_eq_true rfl]
      simp only [cond_true]
      rw [zero_pow', show decide ((0 : Fin n) * 0 = 0) = true from decide_eq_true (by grind)]
      rfl
    · rw [show decide (q = 0) = false from decide_eq_false hq]
      simp only [cond_false]
      have h3 := ss (m := m) q
      have h1 := ss (m := m) (2 : Fin n)
      rw [h2] at h1
      have hS : (rootS m : Fin n) = 2 ^ (2 * m + 1) := rfl
      rw [hS]
      generalize hr : q ^ (m + 1) = r at *
      generalize (2 : Fin n) ^ (2 * m + 1) = S at *
      generalize q ^ (2 * m + 1) = t at *
      by_cases h4 : q ^ (4 * m + 2) = 1
      · rw [show decide (q ^ (4 * m + 2) = 1) = true from decide_eq_true h4]
        simp only [Bool.not_true, cond_false]
        by_cases h5 : r * r = q
        · rw [show decide (r * r = q) = true from decide_eq_true h5]; rfl
        · rw [show decide (r * r = q) = false from decide_eq_false h5]
          simp only [Bool.not_false, cond_true, cond_false]
          have ht : t = 1 ∨ t = -1 := F.sq_eq (by rw [h3, h4]; grind)
          have hs : r * S * (r * S) = q := by
            rcases ht with ht | ht
            · exact absurd (by rw [h0, ht]; grind) h5
            · grind
          rw [show decide (r * S * (r * S) = q) = true from decide_eq_true hs]
          rfl
      · rw [show decide (q ^ (4 * m + 2) = 1) = false from decide_eq_false h4]
        simp only [Bool.not_false, cond_true]
        have h5 : ¬ r * r = q := by
          intro e
          apply h4
          rw [← h3]
          have : t = 1 := F.cancel hq (by grind)
          rw [this]; grind
        have h6 : ¬ r * S * (r * S) = q := by
          intro e
          apply h4
          rw [← h3]
          have : t = -1 := F.cancel hq (by grind)
          rw [this]; grind
        rw [show decide (r * r = q) = false from decide_eq_false h5, show decide (r * S * (r * S) = q) = false from decide_eq_false h6]
        rfl
end

/-- (p - 5) / 8 -/
def M8 : Nat := 7237005577332262213973186563042994240829374041602535252466099000494570602493
theorem P_M8 : P = 8 * M8 + 5 := by decide +kernel
theorem pw_two : pw P 600 2 28948022309329048855892746252171976963317496166410141009864396001978282409974 1 = 57896044618658097711785492504343953926634992332820282019728792003956564819948 := by decide +kernel
theorem half_M8 : 4 * M8 + 2 = 28948022309329048855892746252171976963317496166410141009864396001978282409974 := by decide +kernel
theorem two_half : (2 : Fin P) ^ (4 * M8 + 2) = -1 := by
  refine Fin.ext ?_
  rw [half_M8, pow_val _ _ (by decide +kernel)]
  exact pw_two
/-- the even root of u / v -/
def rootP (u v : Fin P) : Fin P × Bool := root M8 u v
theorem rootP_of {u v x : Fin P} (hv : v ≠ 0) (h : v * (x * x) = u) : rootP u v = (evenI x, true) := fldP.root_of P_M8 two_half hv h
theorem rootP_is {u v : Fin P} (h : (rootP u v).2 = true) : v * ((rootP u v).1 * (rootP u v).1) = u ∧ (rootP u v).1.val % 2 = 0 := by
  unfold rootP at *
  exact root_is P_M8 h
theorem rootP_eq (u v : Fin P) : root2 M8 u v = rootP u v := fldP.root2_eq P_M8 two_half u v

end Ec
