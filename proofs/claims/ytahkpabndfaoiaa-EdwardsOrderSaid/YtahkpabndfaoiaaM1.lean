/-
Numbers: powers modulo n by squaring, the test by a generator, and that a number is a prime.
-/
namespace Ec

/-- a power modulo n, by the bits of e, from the lowest on -/
def pw (n : Nat) : Nat → Nat → Nat → Nat → Nat
  | 0, _, _, acc => acc
  | k + 1, b, e, acc => pw n k (b * b % n) (e / 2) (if e % 2 = 1 then acc * b % n else acc)

theorem pw_eq (n : Nat) (hn : 1 < n) : ∀ (k b e acc : Nat), e < 2 ^ k → acc < n → pw n k b e acc = acc * b ^ e % n := by
  intro k
  induction k with
  | zero =>
    intro b e acc he ha
    have : e = 0 := by simpa using he
    subst this
    simp [pw, Nat.mod_eq_of_lt ha]
  | succ k ih =>
    intro b e acc he ha
    have h2 : e / 2 < 2 ^ k := by rw [Nat.pow_succ] at he; omega
    unfold pw
    by_cases ho : e % 2 = 1
    · rw [if_pos ho, ih _ _ _ h2 (Nat.mod_lt _ (by omega))]
      have e1 : e = 2 * (e / 2) + 1 := by omega
      conv => rhs; rw [e1, Nat.pow_succ, Nat.pow_mul]
      rw [Nat.mul_mod, Nat.mod_mod, ← Nat.mul_mod, Nat.mul_mod, ← Nat.pow_mod, ← Nat.mul_mod]
      have : b ^ 2 = b * b := by rw [Nat.pow_two]
      rw [this, Nat.mul_assoc, Nat.mul_comm b]
    · rw [if_neg ho, ih _ _ _ h2 ha]
      have e1 : e = 2 * (e / 2) := by omega
      conv => rhs; rw [e1, Nat.pow_mul]
      rw [Nat.mul_mod, ← Nat.pow_mod, ← Nat.mul_mod, Nat.pow_two]

/-- a prime number -/
def Prime (n : Nat) : Prop := 1 < n ∧ ∀ d, d ∣ n → d = 1 ∨ d = n


theorem pigeon : ∀ (n : Nat) (f : Nat → Nat), (∀ i, i < n → f i < n) → (∀ i j, i < n → j < n → f i = f j → i = j) → ∀ y, y < n → ∃ i, i < n ∧ f i = y := by
  intro n
  induction n with
  | zero => intro f _ _ y hy; omega
  | succ n ih =>
    intro f hlt inj y hy
    by_cases hyn : y = f n
    · exact ⟨n, by omega, hyn.symm⟩
    · have hv := hlt n (by omega)
      have key : ∀ z, z < n → z ≠ f n → ∃ i, i < n ∧ (if f i = n then f n else f i) = z := by
        intro z hz _
        refine ih (fun i => if f i = n then f n else f i) ?_ ?_ z hz
        · intro i hi
          have h1 := hlt i (by omega)
          by_cases h : f i = n
          · simp only [h, if_true]
            rcases Nat.lt_or_ge (f n) n with h2 | h2
            · exact h2
            · have : i = n := inj i n (by omega) (by omega) (by omega)
              omega
          · simp only [h, if_false]; omega
        · intro i j hi hj h
          by_cases h1 : f i = n <;> by_cases h2 : f j = n
          · exact inj i j (by omega) (by omega) (by omega)
          · simp only [h1, h2, if_true, if_false] at h
            have := inj n j (by omega) (by omega) h; omega
          · simp only [h1, h2, if_true, if_false] at h
            have := inj i n (by omega) (by omega) h; omega
          · simp only [h1, h2, if_false] at h
            exact inj i j (by omega) (by omega) h
      rcases Nat.lt_or_ge y n with h | h
      · obtain ⟨i, hi, he⟩ := key y h hyn
        by_cases h1 : f i = n
        · simp only [h1, if_true] at he; exact absurd he.symm hyn
        · simp only [h1, if_false] at he; exact ⟨i, by omega, he⟩
      · have : y = n := by omega
        subst this
        have hfn : f y < y := by omega
        -- f y is met by the turned function
        obtain ⟨i, hi, he⟩ := ih (fun i => if f i = y then f y else f i) (by
          intro i hi
          have h1 := hlt i (by omega)
          by_cases h : f i = y
          · simp only [h, if_true]; exact hfn
          · simp only [h, if_false]; omega) (by
          intro i j hi hj h
          by_cases h1 : f i = y <;> by_cases h2 : f j = y
          · exact inj i j (by omega) (by omega) (by omega)
          · simp only [h1, h2, if_true, if_false] at h
            have := inj y j (by omega) (by omega) h; omega
          · simp only [h1, h2, if_true, if_false] at h
            have := inj i y (by omega) (by omega) h; omega
          · simp only [h1, h2, if_false] at h
            exact inj i j (by omega) (by omega) h) (f y) hfn
        by_cases h1 : f i = y
        · exact ⟨i, by omega, h1⟩
        · simp only [h1, if_false] at he
          have := inj i y (by omega) (by omega) he; omega

theorem prime_coprime {q c : Nat} (hq : Prime q) (h : ¬ q ∣ c) : Nat.Coprime q c := by
  rcases hq.2 (Nat.gcd q c) (Nat.gcd_dvd_left q c) with h1 | h1
  · exact h1
  · exact absurd (h1 ▸ Nat.gcd_dvd_right q c) h

theorem some_prime : ∀ (fs : List Nat) (c : Nat), (∀ q, q ∈ fs → Prime q) → 1 < c → c ∣ fs.foldr (· * ·) 1 → ∃ q, q ∈ fs ∧ q ∣ c := by
  intro fs
  induction fs with
  | nil => intro c _ hc hd; have := Nat.le_of_dvd (by decide) hd; simp at this; omega
  | cons q fs ih =>
    intro c hp hc hd
    by_cases h : q ∣ c
    · exact ⟨q, by simp, h⟩
    · have hco := prime_coprime (hp q (by simp)) h
      have : c ∣ fs.foldr (· * ·) 1 := Nat.Coprime.dvd_of_dvd_mul_left hco.symm (by simpa using hd)
      obtain ⟨r, hr, hrc⟩ := ih c (fun q hq => hp q (by simp [hq])) hc this
      exact ⟨r, by simp [hr], hrc⟩

/-- modulo n: g's powers, all of them -/
structure Gen (n g : Nat) : Prop where
  one : 1 < n
  last : g ^ (n - 1) % n = 1
  least : ∀ k, 0 < k → k < n - 1 → g ^ k % n ≠ 1

theorem mod_one_mul {n a b : Nat} (ha : a % n = 1) : a * b % n = b % n := by
  rw [Nat.mul_mod, ha, Nat.one_mul, Nat.mod_mod]

theorem pow_gcd_one {n g a : Nat} (hn : 1 < n) (ha : g ^ a % n = 1) : ∀ k, g ^ (a * k) % n = 1 := by
  intro k
  rw [Nat.pow_mul, Nat.pow_mod, ha, Nat.one_pow, Nat.mod_eq_of_lt hn]

theorem gen_of {n g : Nat} (fs : List Nat) (hn : 2 < n) (hp : ∀ q, q ∈ fs → Prime q) (hprod : fs.foldr (· * ·) 1 = n - 1)
    (h1 : pw n 600 g (n - 1) 1 = 1) (hlen : n - 1 < 2 ^ 600) (h2 : ∀ q, q ∈ fs → pw n 600 g ((n - 1) / q) 1 ≠ 1) : Gen n g := by
  have h1' : g ^ (n - 1) % n = 1 := by rw [pw_eq n (by omega) 600 _ _ _ hlen (by omega), Nat.one_mul] at h1; exact h1
  have h2' : ∀ q, q ∈ fs → g ^ ((n - 1) / q) % n ≠ 1 := by
    intro q hq
    have := h2 q hq
    rw [pw_eq n (by omega) 600 _ _ _ (Nat.lt_of_le_of_lt (Nat.div_le_self _ _) hlen) (by omega), Nat.one_mul] at this
    exact this
  refine ⟨by omega, h1', ?_⟩
  -- the least exponent
  have ex : ∀ b, (∃ k, 0 < k ∧ k < b ∧ g ^ k % n = 1) → ∃ m, 0 < m ∧ m < b ∧ g ^ m % n = 1 ∧ ∀ k, 0 < k → k < m → g ^ k % n ≠ 1 := by
    intro b
    induction b with
    | zero => rintro ⟨k, _, h, _⟩; omega
    | succ b ih =>
      rintro ⟨k, hk, hkb, hk1⟩
      by_cases h : ∃ k, 0 < k ∧ k < b ∧ g ^ k % n = 1
      · obtain ⟨m, a, b', c, d⟩ := ih h
        exact ⟨m, a, by omega, c, d⟩
      · refine ⟨k, hk, hkb, hk1, fun j hj hjk e => h ⟨j, hj, by omega, e⟩⟩
  intro k hk hkn hk1
  obtain ⟨m, m0, mlt, m1, mleast⟩ := ex (n - 1) ⟨k, hk, hkn, hk1⟩
  -- m divides n - 1
  have hd : m ∣ n - 1 := by
    have hr : g ^ ((n - 1) % m) % n = 1 := by
      have := Nat.div_add_mod (n - 1) m
      have h3 : g ^ (m * ((n - 1) / m)) * g ^ ((n - 1) % m) % n = 1 := by rw [← Nat.pow_add, this]; exact h1'
      rw [mod_one_mul (pow_gcd_one (by omega) m1 _)] at h3
      exact h3
    rcases Nat.eq_zero_or_pos ((n - 1) % m) with h | h
    · exact Nat.dvd_of_mod_eq_zero h
    · exact absurd hr (mleast _ h (Nat.mod_lt _ m0))
  obtain ⟨c, hc⟩ := hd
  have hc1 : 1 < c := by
    rcases Nat.lt_or_ge 1 c with h | h
    · exact h
    · have : m * c ≤ m * 1 := Nat.mul_le_mul_left _ h
      omega
  obtain ⟨q, hq, r, hr⟩ := some_prime fs c hp hc1 (by rw [hprod, hc]; exact Nat.dvd_mul_left c m)
  refine h2' q hq ?_
  have hq0 : 0 < q := by have := (hp q hq).1; omega
  have : (n - 1) / q = m * r := by
    rw [hc, hr]
    have : m * (q * r) = q * (m * r) := by rw [Nat.mul_left_comm]
    rw [this, Nat.mul_div_cancel_left _ hq0]
  rw [this]
  exact pow_gcd_one (by omega) m1 r

theorem Gen.nonzero {n g : Nat} (h : Gen n g) (k : Nat) : g ^ k % n ≠ 0 := by
  intro hz
  have hn := h.one
  have e : g ^ (k + (n - 1)) % n = 0 := by
    rw [Nat.pow_add, Nat.mul_mod, hz, Nat.zero_mul, Nat.zero_mod]
  have e2 : g ^ ((n - 1) * k) % n = 1 := pow_gcd_one hn h.last k
  have : g ^ ((n - 1) * k) % n = 0 := by
    rcases Nat.eq_zero_or_pos k with hk | hk
    · subst hk; rw [Nat.pow_zero, Nat.mod_eq_of_lt hn] at hz; omega
    · have hle : k ≤ (n - 1) * k := Nat.le_mul_of_pos_left k (by omega)
      have : (n - 1) * k = k + ((n - 1) * k - k) := by omega
      rw [this, Nat.pow_add, Nat.mul_mod, hz, Nat.zero_mul, Nat.zero_mod]
  omega

theorem Gen.distinct {n g : Nat} (h : Gen n g) {a b : Nat} (hab : a < b) (hb : b < n - 1) : g ^ a % n ≠ g ^ b % n := by
  intro e
  have hn := h.one
  refine h.least (b - a) (by omega) (by omega) ?_
  -- times g ^ (n - 1 - a)
  have e1 : g ^ (n - 1 - a) * g ^ a % n = 1 := by rw [← Nat.pow_add, show n - 1 - a + a = n - 1 from by omega]; exact h.last
  have e2 : g ^ (n - 1 - a) * g ^ b % n = 1 := by rw [Nat.mul_mod, ← e, ← Nat.mul_mod]; exact e1
  rw [← Nat.pow_add, show n - 1 - a + b = (n - 1) + (b - a) from by omega, Nat.pow_add, mod_one_mul h.last] at e2
  exact e2

/-- whatever is not nought is a power of g -/
theorem Gen.all {n g : Nat} (h : Gen n g) {x : Nat} (h0 : 0 < x) (hx : x < n) : ∃ k, k < n - 1 ∧ g ^ k % n = x := by
  have hn := h.one
  obtain ⟨i, hi, he⟩ := pigeon (n - 1) (fun i => g ^ i % n - 1) (by
    intro i _
    have := Nat.mod_lt (g ^ i) (show 0 < n by omega)
    have := h.nonzero i
    omega) (by
    intro i j hi hj e
    have h1 := h.nonzero i
    have h2 := h.nonzero j
    have e' : g ^ i % n = g ^ j % n := by omega
    rcases Nat.lt_trichotomy i j with h3 | h3 | h3
    · exact absurd e' (h.distinct h3 hj)
    · exact h3
    · exact absurd e'.symm (h.distinct h3 hi)) (x - 1) (by omega)
  have := h.nonzero i
  exact ⟨i, hi, by omega⟩

theorem Gen.fermat {n g : Nat} (h : Gen n g) {x : Nat} (h0 : 0 < x) (hx : x < n) : x ^ (n - 1) % n = 1 := by
  obtain ⟨k, _, he⟩ := h.all h0 hx
  rw [← he, ← Nat.pow_mod, ← Nat.pow_mul, Nat.mul_comm]
  exact pow_gcd_one h.one h.last k

theorem Gen.prime {n g : Nat} (h : Gen n g) : Prime n := by
  have hn := h.one
  refine ⟨hn, fun d hd => ?_⟩
  have hd0 : 0 < d := Nat.pos_of_dvd_of_pos hd (by omega)
  have hle := Nat.le_of_dvd (by omega) hd
  rcases Nat.lt_or_ge d n with hlt | hge
  · left
    have hf := h.fermat hd0 hlt
    have : d ∣ 1 := by
      have h1 : d ∣ d ^ (n - 1) := by
        rw [show n - 1 = (n - 2) + 1 from by omega, Nat.pow_succ]; exact Nat.dvd_mul_left d _
      have h2 := Nat.div_add_mod (d ^ (n - 1)) n
      rw [hf] at h2
      exact (Nat.dvd_add_right (Nat.dvd_trans hd (Nat.dvd_mul_right n _))).1 (by rw [h2]; exact h1)
    exact Nat.dvd_one.1 this
  · right; omega

end Ec
