/-
Numbers: powers modulo n by squaring, the test by a generator, and that a number is a prime.
Numbers: the field's number and the group's number are primes, with a generator each.
Numbers modulo a prime as a field, and the curve's sums over it: closed, with order free, a nought, opposites.
The field of 2^255 - 19, the curve's number, the base; the base so often as L says is nought.
Points as four numbers, and as three: what their sums, opposites and multiples stand for.
Square roots modulo a prime that is five more than a multiple of eight.
Points from a y and a sign: which there are.
A ladder's numbers and a point's: what doubling and adding come to.
-/


/- Numbers: powers modulo n by squaring, the test by a generator, and that a number is a prime. -/
namespace Ec

/-- a power modulo n, by the bits of e, from the lowest on -/
def pw (n : Nat) : Nat → Nat → Nat → Nat → Nat
  | 0, _, _, acc => acc
  | k + 1, b, e, acc => pw n k (b * b % n) (e / 2) (if e % 2 = 1 then acc * b % n else acc)

theorem pw_eq (n : Nat) (hn : 1 < n) : ∀ (k b e acc : Nat), e < 2 ^ k → acc < n → pw n k b e acc = acc * b ^ e % n := by
  intro k
  induction k with
  | zero =>
    intro b e acc he ha
    have : e = 0 := by simpa using he
    subst this
    simp [pw, Nat.mod_eq_of_lt ha]
  | succ k ih =>
    intro b e acc he ha
    have h2 : e / 2 < 2 ^ k := by rw [Nat.pow_succ] at he; omega
    unfold pw
    by_cases ho : e % 2 = 1
    · rw [if_pos ho, ih _ _ _ h2 (Nat.mod_lt _ (by omega))]
      have e1 : e = 2 * (e / 2) + 1 := by omega
      conv => rhs; rw [e1, Nat.pow_succ, Nat.pow_mul]
      rw [Nat.mul_mod, Nat.mod_mod, ← Nat.mul_mod, Nat.mul_mod, ← Nat.pow_mod, ← Nat.mul_mod]
      have : b ^ 2 = b * b := by rw [Nat.pow_two]
      rw [this, Nat.mul_assoc, Nat.mul_comm b]
    · rw [if_neg ho, ih _ _ _ h2 ha]
      have e1 : e = 2 * (e / 2) := by omega
      conv => rhs; rw [e1, Nat.pow_mul]
      rw [Nat.mul_mod, ← Nat.pow_mod, ← Nat.mul_mod, Nat.pow_two]

/-- a prime number -/
def Prime (n : Nat) : Prop := 1 < n ∧ ∀ d, d ∣ n → d = 1 ∨ d = n


theorem pigeon : ∀ (n : Nat) (f : Nat → Nat), (∀ i, i < n → f i < n) → (∀ i j, i < n → j < n → f i = f j → i = j) → ∀ y, y < n → ∃ i, i < n ∧ f i = y := by
  intro n
  induction n with
  | zero => intro f _ _ y hy; omega
  | succ n ih =>
    intro f hlt inj y hy
    by_cases hyn : y = f n
    · exact ⟨n, by omega, hyn.symm⟩
    · have hv := hlt n (by omega)
      have key : ∀ z, z < n → z ≠ f n → ∃ i, i < n ∧ (if f i = n then f n else f i) = z := by
        intro z hz _
        refine ih (fun i => if f i = n then f n else f i) ?_ ?_ z hz
        · intro i hi
          have h1 := hlt i (by omega)
          by_cases h : f i = n
          · simp only [h, if_true]
            rcases Nat.lt_or_ge (f n) n with h2 | h2
            · exact h2
            · have : i = n := inj i n (by omega) (by omega) (by omega)
              omega
          · simp only [h, if_false]; omega
        · intro i j hi hj h
          by_cases h1 : f i = n <;> by_cases h2 : f j = n
          · exact inj i j (by omega) (by omega) (by omega)
          · simp only [h1, h2, if_true, if_false] at h
            have := inj n j (by omega) (by omega) h; omega
          · simp only [h1, h2, if_true, if_false] at h
            have := inj i n (by omega) (by omega) h; omega
          · simp only [h1, h2, if_false] at h
            exact inj i j (by omega) (by omega) h
      rcases Nat.lt_or_ge y n with h | h
      · obtain ⟨i, hi, he⟩ := key y h hyn
        by_cases h1 : f i = n
        · simp only [h1, if_true] at he; exact absurd he.symm hyn
        · simp only [h1, if_false] at he; exact ⟨i, by omega, he⟩
      · have : y = n := by omega
        subst this
        have hfn : f y < y := by omega
        -- f y is met by the turned function
        obtain ⟨i, hi, he⟩ := ih (fun i => if f i = y then f y else f i) (by
          intro i hi
          have h1 := hlt i (by omega)
          by_cases h : f i = y
          · simp only [h, if_true]; exact hfn
          · simp only [h, if_false]; omega) (by
          intro i j hi hj h
          by_cases h1 : f i = y <;> by_cases h2 : f j = y
          · exact inj i j (by omega) (by omega) (by omega)
          · simp only [h1, h2, if_true, if_false] at h
            have := inj y j (by omega) (by omega) h; omega
          · simp only [h1, h2, if_true, if_false] at h
            have := inj i y (by omega) (by omega) h; omega
          · simp only [h1, h2, if_false] at h
            exact inj i j (by omega) (by omega) h) (f y) hfn
        by_cases h1 : f i = y
        · exact ⟨i, by omega, h1⟩
        · simp only [h1, if_false] at he
          have := inj i y (by omega) (by omega) he; omega

theorem prime_coprime {q c : Nat} (hq : Prime q) (h : ¬ q ∣ c) : Nat.Coprime q c := by
  rcases hq.2 (Nat.gcd q c) (Nat.gcd_dvd_left q c) with h1 | h1
  · exact h1
  · exact absurd (h1 ▸ Nat.gcd_dvd_right q c) h

theorem some_prime : ∀ (fs : List Nat) (c : Nat), (∀ q, q ∈ fs → Prime q) → 1 < c → c ∣ fs.foldr (· * ·) 1 → ∃ q, q ∈ fs ∧ q ∣ c := by
  intro fs
  induction fs with
  | nil => intro c _ hc hd; have := Nat.le_of_dvd (by decide) hd; simp at this; omega
  | cons q fs ih =>
    intro c hp hc hd
    by_cases h : q ∣ c
    · exact ⟨q, by simp, h⟩
    · have hco := prime_coprime (hp q (by simp)) h
      have : c ∣ fs.foldr (· * ·) 1 := Nat.Coprime.dvd_of_dvd_mul_left hco.symm (by simpa using hd)
      obtain ⟨r, hr, hrc⟩ := ih c (fun q hq => hp q (by simp [hq])) hc this
      exact ⟨r, by simp [hr], hrc⟩

/-- modulo n: g's powers, all of them -/
structure Gen (n g : Nat) : Prop where
  one : 1 < n
  last : g ^ (n - 1) % n = 1
  least : ∀ k, 0 < k → k < n - 1 → g ^ k % n ≠ 1

theorem mod_one_mul {n a b : Nat} (ha : a % n = 1) : a * b % n = b % n := by
  rw [Nat.mul_mod, ha, Nat.one_mul, Nat.mod_mod]

theorem pow_gcd_one {n g a : Nat} (hn : 1 < n) (ha : g ^ a % n = 1) : ∀ k, g ^ (a * k) % n = 1 := by
  intro k
  rw [Nat.pow_mul, Nat.pow_mod, ha, Nat.one_pow, Nat.mod_eq_of_lt hn]

theorem gen_of {n g : Nat} (fs : List Nat) (hn : 2 < n) (hp : ∀ q, q ∈ fs → Prime q) (hprod : fs.foldr (· * ·) 1 = n - 1)
    (h1 : pw n 600 g (n - 1) 1 = 1) (hlen : n - 1 < 2 ^ 600) (h2 : ∀ q, q ∈ fs → pw n 600 g ((n - 1) / q) 1 ≠ 1) : Gen n g := by
  have h1' : g ^ (n - 1) % n = 1 := by rw [pw_eq n (by omega) 600 _ _ _ hlen (by omega), Nat.one_mul] at h1; exact h1
  have h2' : ∀ q, q ∈ fs → g ^ ((n - 1) / q) % n ≠ 1 := by
    intro q hq
    have := h2 q hq
    rw [pw_eq n (by omega) 600 _ _ _ (Nat.lt_of_le_of_lt (Nat.div_le_self _ _) hlen) (by omega), Nat.one_mul] at this
    exact this
  refine ⟨by omega, h1', ?_⟩
  -- the least exponent
  have ex : ∀ b, (∃ k, 0 < k ∧ k < b ∧ g ^ k % n = 1) → ∃ m, 0 < m ∧ m < b ∧ g ^ m % n = 1 ∧ ∀ k, 0 < k → k < m → g ^ k % n ≠ 1 := by
    intro b
    induction b with
    | zero => rintro ⟨k, _, h, _⟩; omega
    | succ b ih =>
      rintro ⟨k, hk, hkb, hk1⟩
      by_cases h : ∃ k, 0 < k ∧ k < b ∧ g ^ k % n = 1
      · obtain ⟨m, a, b', c, d⟩ := ih h
        exact ⟨m, a, by omega, c, d⟩
      · refine ⟨k, hk, hkb, hk1, fun j hj hjk e => h ⟨j, hj, by omega, e⟩⟩
  intro k hk hkn hk1
  obtain ⟨m, m0, mlt, m1, mleast⟩ := ex (n - 1) ⟨k, hk, hkn, hk1⟩
  -- m divides n - 1
  have hd : m ∣ n - 1 := by
    have hr : g ^ ((n - 1) % m) % n = 1 := by
      have := Nat.div_add_mod (n - 1) m
      have h3 : g ^ (m * ((n - 1) / m)) * g ^ ((n - 1) % m) % n = 1 := by rw [← Nat.pow_add, this]; exact h1'
      rw [mod_one_mul (pow_gcd_one (by omega) m1 _)] at h3
      exact h3
    rcases Nat.eq_zero_or_pos ((n - 1) % m) with h | h
    · exact Nat.dvd_of_mod_eq_zero h
    · exact absurd hr (mleast _ h (Nat.mod_lt _ m0))
  obtain ⟨c, hc⟩ := hd
  have hc1 : 1 < c := by
    rcases Nat.lt_or_ge 1 c with h | h
    · exact h
    · have : m * c ≤ m * 1 := Nat.mul_le_mul_left _ h
      omega
  obtain ⟨q, hq, r, hr⟩ := some_prime fs c hp hc1 (by rw [hprod, hc]; exact Nat.dvd_mul_left c m)
  refine h2' q hq ?_
  have hq0 : 0 < q := by have := (hp q hq).1; omega
  have : (n - 1) / q = m * r := by
    rw [hc, hr]
    have : m * (q * r) = q * (m * r) := by rw [Nat.mul_left_comm]
    rw [this, Nat.mul_div_cancel_left _ hq0]
  rw [this]
  exact pow_gcd_one (by omega) m1 r

theorem Gen.nonzero {n g : Nat} (h : Gen n g) (k : Nat) : g ^ k % n ≠ 0 := by
  intro hz
  have hn := h.one
  have e : g ^ (k + (n - 1)) % n = 0 := by
    rw [Nat.pow_add, Nat.mul_mod, hz, Nat.zero_mul, Nat.zero_mod]
  have e2 : g ^ ((n - 1) * k) % n = 1 := pow_gcd_one hn h.last k
  have : g ^ ((n - 1) * k) % n = 0 := by
    rcases Nat.eq_zero_or_pos k with hk | hk
    · subst hk; rw [Nat.pow_zero, Nat.mod_eq_of_lt hn] at hz; omega
    · have hle : k ≤ (n - 1) * k := Nat.le_mul_of_pos_left k (by omega)
      have : (n - 1) * k = k + ((n - 1) * k - k) := by omega
      rw [this, Nat.pow_add, Nat.mul_mod, hz, Nat.zero_mul, Nat.zero_mod]
  omega

theorem Gen.distinct {n g : Nat} (h : Gen n g) {a b : Nat} (hab : a < b) (hb : b < n - 1) : g ^ a % n ≠ g ^ b % n := by
  intro e
  have hn := h.one
  refine h.least (b - a) (by omega) (by omega) ?_
  -- times g ^ (n - 1 - a)
  have e1 : g ^ (n - 1 - a) * g ^ a % n = 1 := by rw [← Nat.pow_add, show n - 1 - a + a = n - 1 from by omega]; exact h.last
  have e2 : g ^ (n - 1 - a) * g ^ b % n = 1 := by rw [Nat.mul_mod, ← e, ← Nat.mul_mod]; exact e1
  rw [← Nat.pow_add, show n - 1 - a + b = (n - 1) + (b - a) from by omega, Nat.pow_add, mod_one_mul h.last] at e2
  exact e2

/-- whatever is not nought is a power of g -/
theorem Gen.all {n g : Nat} (h : Gen n g) {x : Nat} (h0 : 0 < x) (hx : x < n) : ∃ k, k < n - 1 ∧ g ^ k % n = x := by
  have hn := h.one
  obtain ⟨i, hi, he⟩ := pigeon (n - 1) (fun i => g ^ i % n - 1) (by
    intro i _
    have := Nat.mod_lt (g ^ i) (show 0 < n by omega)
    have := h.nonzero i
    omega) (by
    intro i j hi hj e
    have h1 := h.nonzero i
    have h2 := h.nonzero j
    have e' : g ^ i % n = g ^ j % n := by omega
    rcases Nat.lt_trichotomy i j with h3 | h3 | h3
    · exact absurd e' (h.distinct h3 hj)
    · exact h3
    · exact absurd e'.symm (h.distinct h3 hi)) (x - 1) (by omega)
  have := h.nonzero i
  exact ⟨i, hi, by omega⟩

theorem Gen.fermat {n g : Nat} (h : Gen n g) {x : Nat} (h0 : 0 < x) (hx : x < n) : x ^ (n - 1) % n = 1 := by
  obtain ⟨k, _, he⟩ := h.all h0 hx
  rw [← he, ← Nat.pow_mod, ← Nat.pow_mul, Nat.mul_comm]
  exact pow_gcd_one h.one h.last k

theorem Gen.prime {n g : Nat} (h : Gen n g) : Prime n := by
  have hn := h.one
  refine ⟨hn, fun d hd => ?_⟩
  have hd0 : 0 < d := Nat.pos_of_dvd_of_pos hd (by omega)
  have hle := Nat.le_of_dvd (by omega) hd
  rcases Nat.lt_or_ge d n with hlt | hge
  · left
    have hf := h.fermat hd0 hlt
    have : d ∣ 1 := by
      have h1 : d ∣ d ^ (n - 1) := by
        rw [show n - 1 = (n - 2) + 1 from by omega, Nat.pow_succ]; exact Nat.dvd_mul_left d _
      have h2 := Nat.div_add_mod (d ^ (n - 1)) n
      rw [hf] at h2
      exact (Nat.dvd_add_right (Nat.dvd_trans hd (Nat.dvd_mul_right n _))).1 (by rw [h2]; exact h1)
    exact Nat.dvd_one.1 this
  · right; omega

end Ec

/- Numbers: the field's number and the group's number are primes, with a generator each. -/
namespace Ec

/-- no number d, d + 2, .. (k of them) is a divisor; stops where d * d is beyond n -/
def noDiv (n : Nat) : Nat → Nat → Bool
  | 0, _ => false
  | k + 1, d => Nat.blt n (d * d) || (n % d != 0 && noDiv n k (d + 2))

theorem noDiv_spec (n : Nat) : ∀ k d, 1 < d → noDiv n k d = true → ∀ e, d ≤ e → e % 2 = d % 2 → e ∣ n → 0 < n → n < e * e := by
  intro k
  induction k with
  | zero => intro d _ h; simp [noDiv] at h
  | succ k ih =>
    intro d hd h e hde hp hen hn
    unfold noDiv at h
    rw [Bool.or_eq_true, Bool.and_eq_true] at h
    rcases h with h | ⟨h1, h2⟩
    · have h3 : n < d * d := by have := Nat.le_of_ble_eq_true h; omega
      exact Nat.lt_of_lt_of_le h3 (Nat.mul_le_mul hde hde)
    · rcases Nat.eq_or_lt_of_le hde with h3 | h3
      · subst h3
        have := Nat.mod_eq_zero_of_dvd hen
        simp [this] at h1
      · exact ih (d + 2) (by omega) h2 e (by omega) (by omega) hen hn

def smallB (n : Nat) : Bool := n == 2 || (Nat.blt 1 n && n % 2 != 0 && noDiv n 710 3)

theorem small_prime (n : Nat) (h : smallB n = true) : Prime n := by
  unfold smallB at h
  rw [Bool.or_eq_true, Bool.and_eq_true, Bool.and_eq_true] at h
  rcases h with h | ⟨⟨h1, h2⟩, h3⟩
  · have : n = 2 := by simpa using h
    subst this
    refine ⟨by decide, fun d hd => ?_⟩
    have := Nat.le_of_dvd (by decide) hd
    have h0 : 0 < d := Nat.pos_of_dvd_of_pos hd (by decide)
    omega
  · have h1 : 1 < n := by have := Nat.le_of_ble_eq_true h1; omega
    have h2 : n % 2 = 1 := by
      have : n % 2 ≠ 0 := by simpa using h2
      omega
    refine ⟨h1, fun d hd => ?_⟩
    have hd0 : 0 < d := Nat.pos_of_dvd_of_pos hd (by omega)
    have odd : ∀ e, e ∣ n → e % 2 = 1 := by
      intro e he
      have h4 : e % 2 = 0 ∨ e % 2 = 1 := by omega
      rcases h4 with h4 | h4
      · have : 2 ∣ n := Nat.dvd_trans (Nat.dvd_of_mod_eq_zero h4) he
        have := Nat.mod_eq_zero_of_dvd this
        omega
      · exact h4
    obtain ⟨c, hc⟩ := hd
    have hcd : c ∣ n := ⟨d, by rw [hc, Nat.mul_comm]⟩
    have hc0 : 0 < c := Nat.pos_of_dvd_of_pos hcd (by omega)
    have big : ∀ e, e ∣ n → e ≠ 1 → n < e * e := by
      intro e he hne
      have h5 := odd e he
      have h0 : 0 < e := Nat.pos_of_dvd_of_pos he (by omega)
      exact noDiv_spec n 710 3 (by decide) h3 e (by omega) (by omega) he (by omega)
    by_cases hd1 : d = 1
    · exact .inl hd1
    · by_cases hc1 : c = 1
      · right; rw [hc, hc1, Nat.mul_one]
      · exfalso
        have b1 := big d ⟨c, hc⟩ hd1
        have b2 := big c hcd hc1
        rcases Nat.le_total d c with h6 | h6
        · have : d * d ≤ d * c := Nat.mul_le_mul_left _ h6
          omega
        · have : c * c ≤ d * c := Nat.mul_le_mul_right _ h6
          omega

theorem pr2 : Prime 2 := small_prime _ (by decide +kernel)
theorem pr3 : Prime 3 := small_prime _ (by decide +kernel)
theorem pr5 : Prime 5 := small_prime _ (by decide +kernel)
theorem pr7 : Prime 7 := small_prime _ (by decide +kernel)
theorem pr11 : Prime 11 := small_prime _ (by decide +kernel)
theorem pr13 : Prime 13 := small_prime _ (by decide +kernel)
theorem pr19 : Prime 19 := small_prime _ (by decide +kernel)
theorem pr23 : Prime 23 := small_prime _ (by decide +kernel)
theorem pr31 : Prime 31 := small_prime _ (by decide +kernel)
theorem pr41 : Prime 41 := small_prime _ (by decide +kernel)
theorem pr43 : Prime 43 := small_prime _ (by decide +kernel)
theorem pr47 : Prime 47 := small_prime _ (by decide +kernel)
theorem pr73 : Prime 73 := small_prime _ (by decide +kernel)
theorem pr103 : Prime 103 := small_prime _ (by decide +kernel)
theorem pr107 : Prime 107 := small_prime _ (by decide +kernel)
theorem pr127 : Prime 127 := small_prime _ (by decide +kernel)
theorem pr223 : Prime 223 := small_prime _ (by decide +kernel)
theorem pr269 : Prime 269 := small_prime _ (by decide +kernel)
theorem pr307 : Prime 307 := small_prime _ (by decide +kernel)
theorem pr353 : Prime 353 := small_prime _ (by decide +kernel)
theorem pr991 : Prime 991 := small_prime _ (by decide +kernel)
theorem pr1361 : Prime 1361 := small_prime _ (by decide +kernel)
theorem pr2437 : Prime 2437 := small_prime _ (by decide +kernel)
theorem pr2851 : Prime 2851 := small_prime _ (by decide +kernel)
theorem pr4153 : Prime 4153 := small_prime _ (by decide +kernel)
theorem pr5879 : Prime 5879 := small_prime _ (by decide +kernel)
theorem pr30703 : Prime 30703 := small_prime _ (by decide +kernel)
theorem pr57467 : Prime 57467 := small_prime _ (by decide +kernel)
theorem pr65147 : Prime 65147 := small_prime _ (by decide +kernel)
theorem pr75707 : Prime 75707 := small_prime _ (by decide +kernel)
theorem pr82163 : Prime 82163 := small_prime _ (by decide +kernel)
theorem pr132049 : Prime 132049 := small_prime _ (by decide +kernel)
theorem pr132667 : Prime 132667 := small_prime _ (by decide +kernel)
theorem pr137849 : Prime 137849 := small_prime _ (by decide +kernel)
theorem pr409477 : Prime 409477 := small_prime _ (by decide +kernel)
theorem pr430751 : Prime 430751 := small_prime _ (by decide +kernel)
theorem pr531581 : Prime 531581 := small_prime _ (by decide +kernel)
theorem pr569003 : Prime 569003 := small_prime _ (by decide +kernel)
theorem pr1224481 : Prime 1224481 := small_prime _ (by decide +kernel)
theorem pr1923133 : Prime 1923133 := small_prime _ (by decide +kernel)
theorem gen2773320623 : Gen 2773320623 5 := gen_of [2, 2437, 569003] (by decide +kernel) (by
  intro q hq
  simp only [List.mem_cons, List.not_mem_nil, or_false] at hq
  rcases hq with rfl | rfl | rfl
  · exact pr2
  · exact pr2437
  · exact pr569003
  ) (by decide +kernel) (by decide +kernel) (by decide +kernel) (by decide +kernel)
theorem pr2773320623 : Prime 2773320623 := gen2773320623.prime
theorem gen72106336199 : Gen 72106336199 7 := gen_of [2, 13, 2773320623] (by decide +kernel) (by
  intro q hq
  simp only [List.mem_cons, List.not_mem_nil, or_false] at hq
  rcases hq with rfl | rfl | rfl
  · exact pr2
  · exact pr13
  · exact pr2773320623
  ) (by decide +kernel) (by decide +kernel) (by decide +kernel) (by decide +kernel)
theorem pr72106336199 : Prime 72106336199 := gen72106336199.prime
theorem gen8574133 : Gen 8574133 2 := gen_of [2, 2, 3, 7, 103, 991] (by decide +kernel) (by
  intro q hq
  simp only [List.mem_cons, List.not_mem_nil, or_false] at hq
  rcases hq with rfl | rfl | rfl | rfl | rfl | rfl
  · exact pr2
  · exact pr2
  · exact pr3
  · exact pr7
  · exact pr103
  · exact pr991
  ) (by decide +kernel) (by decide +kernel) (by decide +kernel) (by decide +kernel)
theorem pr8574133 : Prime 8574133 := gen8574133.prime
theorem gen1919519569386763 : Gen 1919519569386763 2 := gen_of [2, 3, 7, 19, 47, 47, 127, 8574133] (by decide +kernel) (by
  intro q hq
  simp only [List.mem_cons, List.not_mem_nil, or_false] at hq
  rcases hq with rfl | rfl | rfl | rfl | rfl | rfl | rfl | rfl
  · exact pr2
  · exact pr3
  · exact pr7
  · exact pr19
  · exact pr47
  · exact pr47
  · exact pr127
  · exact pr8574133
  ) (by decide +kernel) (by decide +kernel) (by decide +kernel) (by decide +kernel)
theorem pr1919519569386763 : Prime 1919519569386763 := gen1919519569386763.prime
theorem gen75445702479781427272750846543864801 : Gen 75445702479781427272750846543864801 7 := gen_of [2, 2, 2, 2, 2, 3, 3, 5, 5, 75707, 72106336199, 1919519569386763] (by decide +kernel) (by
  intro q hq
  simp only [List.mem_cons, List.not_mem_nil, or_false] at hq
  rcases hq with rfl | rfl | rfl | rfl | rfl | rfl | rfl | rfl | rfl | rfl | rfl | rfl
  · exact pr2
  · exact pr2
  · exact pr2
  · exact pr2
  · exact pr2
  · exact pr3
  · exact pr3
  · exact pr5
  · exact pr5
  · exact pr75707
  · exact pr72106336199
  · exact pr1919519569386763
  ) (by decide +kernel) (by decide +kernel) (by decide +kernel) (by decide +kernel)
theorem pr75445702479781427272750846543864801 : Prime 75445702479781427272750846543864801 := gen75445702479781427272750846543864801.prime
theorem gen31757755568855353 : Gen 31757755568855353 10 := gen_of [2, 2, 2, 3, 31, 107, 223, 4153, 430751] (by decide +kernel) (by
  intro q hq
  simp only [List.mem_cons, List.not_mem_nil, or_false] at hq
  rcases hq with rfl | rfl | rfl | rfl | rfl | rfl | rfl | rfl | rfl
  · exact pr2
  · exact pr2
  · exact pr2
  · exact pr3
  · exact pr31
  · exact pr107
  · exact pr223
  · exact pr4153
  · exact pr430751
  ) (by decide +kernel) (by decide +kernel) (by decide +kernel) (by decide +kernel)
theorem pr31757755568855353 : Prime 31757755568855353 := gen31757755568855353.prime
theorem gen74058212732561358302231226437062788676166966415465897661863160754340907 : Gen 74058212732561358302231226437062788676166966415465897661863160754340907 2 := gen_of [2, 3, 353, 57467, 132049, 1923133, 31757755568855353, 75445702479781427272750846543864801] (by decide +kernel) (by
  intro q hq
  simp only [List.mem_cons, List.not_mem_nil, or_false] at hq
  rcases hq with rfl | rfl | rfl | rfl | rfl | rfl | rfl | rfl
  · exact pr2
  · exact pr3
  · exact pr353
  · exact pr57467
  · exact pr132049
  · exact pr1923133
  · exact pr31757755568855353
  · exact pr75445702479781427272750846543864801
  ) (by decide +kernel) (by decide +kernel) (by decide +kernel) (by decide +kernel)
theorem pr74058212732561358302231226437062788676166966415465897661863160754340907 : Prime 74058212732561358302231226437062788676166966415465897661863160754340907 := gen74058212732561358302231226437062788676166966415465897661863160754340907.prime
theorem genP : Gen 57896044618658097711785492504343953926634992332820282019728792003956564819949 2 := gen_of [2, 2, 3, 65147, 74058212732561358302231226437062788676166966415465897661863160754340907] (by decide +kernel) (by
  intro q hq
  simp only [List.mem_cons, List.not_mem_nil, or_false] at hq
  rcases hq with rfl | rfl | rfl | rfl | rfl
  · exact pr2
  · exact pr2
  · exact pr3
  · exact pr65147
  · exact pr74058212732561358302231226437062788676166966415465897661863160754340907
  ) (by decide +kernel) (by decide +kernel) (by decide +kernel) (by decide +kernel)
theorem gen1257559732178653 : Gen 1257559732178653 2 := gen_of [2, 2, 3, 7, 23, 531581, 1224481] (by decide +kernel) (by
  intro q hq
  simp only [List.mem_cons, List.not_mem_nil, or_false] at hq
  rcases hq with rfl | rfl | rfl | rfl | rfl | rfl | rfl
  · exact pr2
  · exact pr2
  · exact pr3
  · exact pr7
  · exact pr23
  · exact pr531581
  · exact pr1224481
  ) (by decide +kernel) (by decide +kernel) (by decide +kernel) (by decide +kernel)
theorem pr1257559732178653 : Prime 1257559732178653 := gen1257559732178653.prime
theorem gen4434155615661930479 : Gen 4434155615661930479 17 := gen_of [2, 41, 43, 1257559732178653] (by decide +kernel) (by
  intro q hq
  simp only [List.mem_cons, List.not_mem_nil, or_false] at hq
  rcases hq with rfl | rfl | rfl | rfl
  · exact pr2
  · exact pr41
  · exact pr43
  · exact pr1257559732178653
  ) (by decide +kernel) (by decide +kernel) (by decide +kernel) (by decide +kernel)
theorem pr4434155615661930479 : Prime 4434155615661930479 := gen4434155615661930479.prime
theorem gen172054593956031949258510691 : Gen 172054593956031949258510691 2 := gen_of [2, 5, 1361, 2851, 4434155615661930479] (by decide +kernel) (by
  intro q hq
  simp only [List.mem_cons, List.not_mem_nil, or_false] at hq
  rcases hq with rfl | rfl | rfl | rfl | rfl
  · exact pr2
  · exact pr5
  · exact pr1361
  · exact pr2851
  · exact pr4434155615661930479
  ) (by decide +kernel) (by decide +kernel) (by decide +kernel) (by decide +kernel)
theorem pr172054593956031949258510691 : Prime 172054593956031949258510691 := gen172054593956031949258510691.prime
theorem gen292386187 : Gen 292386187 2 := gen_of [2, 3, 3, 3, 3, 307, 5879] (by decide +kernel) (by
  intro q hq
  simp only [List.mem_cons, List.not_mem_nil, or_false] at hq
  rcases hq with rfl | rfl | rfl | rfl | rfl | rfl | rfl
  · exact pr2
  · exact pr3
  · exact pr3
  · exact pr3
  · exact pr3
  · exact pr307
  · exact pr5879
  ) (by decide +kernel) (by decide +kernel) (by decide +kernel) (by decide +kernel)
theorem pr292386187 : Prime 292386187 := gen292386187.prime
theorem gen213441916511 : Gen 213441916511 13 := gen_of [2, 5, 73, 292386187] (by decide +kernel) (by
  intro q hq
  simp only [List.mem_cons, List.not_mem_nil, or_false] at hq
  rcases hq with rfl | rfl | rfl | rfl
  · exact pr2
  · exact pr5
  · exact pr73
  · exact pr292386187
  ) (by decide +kernel) (by decide +kernel) (by decide +kernel) (by decide +kernel)
theorem pr213441916511 : Prime 213441916511 := gen213441916511.prime
theorem gen19757330305831588566944191468367130476339 : Gen 19757330305831588566944191468367130476339 2 := gen_of [2, 269, 213441916511, 172054593956031949258510691] (by decide +kernel) (by
  intro q hq
  simp only [List.mem_cons, List.not_mem_nil, or_false] at hq
  rcases hq with rfl | rfl | rfl | rfl
  · exact pr2
  · exact pr269
  · exact pr213441916511
  · exact pr172054593956031949258510691
  ) (by decide +kernel) (by decide +kernel) (by decide +kernel) (by decide +kernel)
theorem pr19757330305831588566944191468367130476339 : Prime 19757330305831588566944191468367130476339 := gen19757330305831588566944191468367130476339.prime
theorem gen276602624281642239937218680557139826668747 : Gen 276602624281642239937218680557139826668747 2 := gen_of [2, 7, 19757330305831588566944191468367130476339] (by decide +kernel) (by
  intro q hq
  simp only [List.mem_cons, List.not_mem_nil, or_false] at hq
  rcases hq with rfl | rfl | rfl
  · exact pr2
  · exact pr7
  · exact pr19757330305831588566944191468367130476339
  ) (by decide +kernel) (by decide +kernel) (by decide +kernel) (by decide +kernel)
theorem pr276602624281642239937218680557139826668747 : Prime 276602624281642239937218680557139826668747 := gen276602624281642239937218680557139826668747.prime
theorem gen14741173 : Gen 14741173 2 := gen_of [2, 2, 3, 3, 409477] (by decide +kernel) (by
  intro q hq
  simp only [List.mem_cons, List.not_mem_nil, or_false] at hq
  rcases hq with rfl | rfl | rfl | rfl | rfl
  · exact pr2
  · exact pr2
  · exact pr3
  · exact pr3
  · exact pr409477
  ) (by decide +kernel) (by decide +kernel) (by decide +kernel) (by decide +kernel)
theorem pr14741173 : Prime 14741173 := gen14741173.prime
theorem gen58964693 : Gen 58964693 2 := gen_of [2, 2, 14741173] (by decide +kernel) (by
  intro q hq
  simp only [List.mem_cons, List.not_mem_nil, or_false] at hq
  rcases hq with rfl | rfl | rfl
  · exact pr2
  · exact pr2
  · exact pr14741173
  ) (by decide +kernel) (by decide +kernel) (by decide +kernel) (by decide +kernel)
theorem pr58964693 : Prime 58964693 := gen58964693.prime
theorem gen3044861653679985063343 : Gen 3044861653679985063343 5 := gen_of [2, 3, 11, 30703, 82163, 132667, 137849] (by decide +kernel) (by
  intro q hq
  simp only [List.mem_cons, List.not_mem_nil, or_false] at hq
  rcases hq with rfl | rfl | rfl | rfl | rfl | rfl | rfl
  · exact pr2
  · exact pr3
  · exact pr11
  · exact pr30703
  · exact pr82163
  · exact pr132667
  · exact pr137849
  ) (by decide +kernel) (by decide +kernel) (by decide +kernel) (by decide +kernel)
theorem pr3044861653679985063343 : Prime 3044861653679985063343 := gen3044861653679985063343.prime
theorem gen198211423230930754013084525763697 : Gen 198211423230930754013084525763697 5 := gen_of [2, 2, 2, 2, 3, 23, 58964693, 3044861653679985063343] (by decide +kernel) (by
  intro q hq
  simp only [List.mem_cons, List.not_mem_nil, or_false] at hq
  rcases hq with rfl | rfl | rfl | rfl | rfl | rfl | rfl | rfl
  · exact pr2
  · exact pr2
  · exact pr2
  · exact pr2
  · exact pr3
  · exact pr23
  · exact pr58964693
  · exact pr3044861653679985063343
  ) (by decide +kernel) (by decide +kernel) (by decide +kernel) (by decide +kernel)
theorem pr198211423230930754013084525763697 : Prime 198211423230930754013084525763697 := gen198211423230930754013084525763697.prime
theorem genL : Gen 7237005577332262213973186563042994240857116359379907606001950938285454250989 2 := gen_of [2, 2, 3, 11, 198211423230930754013084525763697, 276602624281642239937218680557139826668747] (by decide +kernel) (by
  intro q hq
  simp only [List.mem_cons, List.not_mem_nil, or_false] at hq
  rcases hq with rfl | rfl | rfl | rfl | rfl | rfl
  · exact pr2
  · exact pr2
  · exact pr3
  · exact pr11
  · exact pr198211423230930754013084525763697
  · exact pr276602624281642239937218680557139826668747
  ) (by decide +kernel) (by decide +kernel) (by decide +kernel) (by decide +kernel)

end Ec

/- Numbers modulo a prime as a field, and the curve's sums over it: closed, with order free, a nought, opposites. -/
namespace Ec
variable {n : Nat} [NeZero n]

/-- what is wanted of n: whatever is not nought has the power n - 1 that is one; two is not nought -/
structure Fld (n : Nat) [NeZero n] : Prop where
  big : 2 < n
  fermat : ∀ x : Fin n, x ≠ 0 → x ^ (n - 1) = 1

/-- the inverse, as a power -/
def inv (x : Fin n) : Fin n := x ^ (n - 2)

namespace Fld
variable (F : Fld n)
include F

theorem mul_inv {x : Fin n} (h : x ≠ 0) : x * inv x = 1 := by
  have := F.fermat x h
  have hb := F.big
  rw [show n - 1 = (n - 2) + 1 from by omega] at this
  unfold inv
  grind

theorem inv_mul {x : Fin n} (h : x ≠ 0) : inv x * x = 1 := by
  have := F.mul_inv h; grind

theorem one_ne : (1 : Fin n) ≠ 0 := by
  have hb := F.big
  intro h
  have := congrArg Fin.val h
  have e : ((1 : Fin n) : Nat) = 1 % n := rfl
  rw [e, Nat.mod_eq_of_lt (show 1 < n by omega)] at this
  simp at this

theorem two_ne : (2 : Fin n) ≠ 0 := by
  have hb := F.big
  intro h
  have := congrArg Fin.val h
  have e : ((2 : Fin n) : Nat) = 2 % n := rfl
  rw [e, Nat.mod_eq_of_lt hb] at this
  simp at this

theorem inv_zero : inv (0 : Fin n) = 0 := by
  have h := F.big
  unfold inv
  obtain ⟨k, hk⟩ : ∃ k, n - 2 = k + 1 := ⟨n - 3, by omega⟩
  rw [hk]
  grind

theorem mul_ne {x y : Fin n} (hx : x ≠ 0) (hy : y ≠ 0) : x * y ≠ 0 := by
  intro h
  have h1 := F.mul_inv hx
  apply hy
  grind

theorem cancel {x y z : Fin n} (hz : z ≠ 0) (h : x * z = y * z) : x = y := by
  have h1 := F.mul_inv hz
  grind

theorem sq_zero {x : Fin n} (h : x * x = 0) : x = 0 := by
  apply Classical.byContradiction
  intro hx
  exact F.mul_ne hx hx h

theorem or_of_mul {x y : Fin n} (h : x * y = 0) : x = 0 ∨ y = 0 := by
  by_cases hx : x = 0
  · exact .inl hx
  · right
    apply Classical.byContradiction
    intro hy
    exact F.mul_ne hx hy h

theorem inv_inv_mul {x y : Fin n} (hx : x ≠ 0) (hy : y ≠ 0) : inv (x * y) = inv x * inv y := by
  have h1 := F.mul_inv hx
  have h2 := F.mul_inv hy
  have h3 := F.mul_inv (F.mul_ne hx hy)
  grind

end Fld

/-- the curve: a number d that is no square, a root of -1 -/
structure Cur (n : Nat) [NeZero n] (d : Fin n) : Prop extends Fld n where
  root : ∃ i : Fin n, i * i = -1
  nsq : ∀ z : Fin n, z * z ≠ d

/-- a point's numbers lie on the curve -/
def On (d x y : Fin n) : Prop := y * y - x * x = 1 + d * (x * x) * (y * y)

namespace Cur
variable {d : Fin n} (C : Cur n d)
include C

theorem den (x1 y1 x2 y2 e : Fin n) (h1 : On d x1 y1) (h2 : On d x2 y2) (he : e * e = 1) : d * x1 * x2 * y1 * y2 ≠ e := by
  intro hd
  unfold On at h1 h2
  obtain ⟨i, hi⟩ := C.root
  have h2n := C.toFld.two_ne
  have x1n : x1 ≠ 0 := by
    intro h; subst h; have := C.toFld.one_ne; grind
  have y1n : y1 ≠ 0 := by
    intro h; subst h; have := C.toFld.one_ne; grind
  have y2n : y2 ≠ 0 := by
    intro h; subst h; have := C.toFld.one_ne; grind
  have a1 : (i * x1 + e * y1) * (i * x1 + e * y1) = d * ((x1 * y1) * (i * x2 + y2)) * ((x1 * y1) * (i * x2 + y2)) := by grind
  have a2 : (i * x1 - e * y1) * (i * x1 - e * y1) = d * ((x1 * y1) * (i * x2 - y2)) * ((x1 * y1) * (i * x2 - y2)) := by grind
  have sq : ∀ u v : Fin n, u * u = d * v * v → v = 0 := by
    intro u v h
    apply Classical.byContradiction
    intro hv
    have hm := C.toFld.mul_inv hv
    exact C.nsq (u * inv v) (by grind)
  have b1 := sq _ _ a1
  have b2 := sq _ _ a2
  have hxy := C.toFld.mul_ne x1n y1n
  have c1 : i * x2 + y2 = 0 := by
    rcases C.toFld.or_of_mul b1 with h | h
    · exact absurd h hxy
    · exact h
  have c2 : i * x2 - y2 = 0 := by
    rcases C.toFld.or_of_mul b2 with h | h
    · exact absurd h hxy
    · exact h
  have : 2 * y2 = 0 := by grind
  rcases C.toFld.or_of_mul this with h | h
  · exact h2n h
  · exact y2n h

theorem den1 {x1 y1 x2 y2 : Fin n} (h1 : On d x1 y1) (h2 : On d x2 y2) : 1 + d * x1 * x2 * y1 * y2 ≠ 0 := by
  intro h
  exact C.den x1 y1 x2 y2 (-1) h1 h2 (by grind) (by grind)

theorem den2 {x1 y1 x2 y2 : Fin n} (h1 : On d x1 y1) (h2 : On d x2 y2) : 1 - d * x1 * x2 * y1 * y2 ≠ 0 := by
  intro h
  exact C.den x1 y1 x2 y2 1 h1 h2 (by grind) (by grind)

end Cur

/-- a sum's x and y -/
def addX (d x1 y1 x2 y2 : Fin n) : Fin n := (x1 * y2 + x2 * y1) * inv (1 + d * x1 * x2 * y1 * y2)
def addY (d x1 y1 x2 y2 : Fin n) : Fin n := (y1 * y2 + x1 * x2) * inv (1 - d * x1 * x2 * y1 * y2)

theorem poly_on (d x1 y1 x2 y2 : Fin n) (h1 : On d x1 y1) (h2 : On d x2 y2) :
    (y1*y2+x1*x2)*(y1*y2+x1*x2)*((1+d*x1*x2*y1*y2)*(1+d*x1*x2*y1*y2)) - (x1*y2+x2*y1)*(x1*y2+x2*y1)*((1-d*x1*x2*y1*y2)*(1-d*x1*x2*y1*y2))
      = (1+d*x1*x2*y1*y2)*(1+d*x1*x2*y1*y2)*((1-d*x1*x2*y1*y2)*(1-d*x1*x2*y1*y2)) + d*((x1*y2+x2*y1)*(x1*y2+x2*y1))*((y1*y2+x1*x2)*(y1*y2+x1*x2)) := by
  unfold On at h1 h2
  grind

theorem poly_x (d x1 y1 x2 y2 x3 y3 : Fin n) (h1 : On d x1 y1) (h2 : On d x2 y2) (h3 : On d x3 y3) :
    ((x1*y2+x2*y1)*(1-d*x1*x2*y1*y2)*y3 + x3*(y1*y2+x1*x2)*(1+d*x1*x2*y1*y2)) * ((1+d*x2*x3*y2*y3)*(1-d*x2*x3*y2*y3) + d*x1*(x2*y3+x3*y2)*y1*(y2*y3+x2*x3))
      = (x1*(y2*y3+x2*x3)*(1+d*x2*x3*y2*y3) + (x2*y3+x3*y2)*(1-d*x2*x3*y2*y3)*y1) * ((1+d*x1*x2*y1*y2)*(1-d*x1*x2*y1*y2) + d*(x1*y2+x2*y1)*x3*(y1*y2+x1*x2)*y3) := by
  unfold On at h1 h2 h3
  grind

theorem poly_y (d x1 y1 x2 y2 x3 y3 : Fin n) (h1 : On d x1 y1) (h2 : On d x2 y2) (h3 : On d x3 y3) :
    ((y1*y2+x1*x2)*(1+d*x1*x2*y1*y2)*y3 + (x1*y2+x2*y1)*(1-d*x1*x2*y1*y2)*x3) * ((1+d*x2*x3*y2*y3)*(1-d*x2*x3*y2*y3) - d*x1*(x2*y3+x3*y2)*y1*(y2*y3+x2*x3))
      = (y1*(y2*y3+x2*x3)*(1+d*x2*x3*y2*y3) + x1*(x2*y3+x3*y2)*(1-d*x2*x3*y2*y3)) * ((1+d*x1*x2*y1*y2)*(1-d*x1*x2*y1*y2) - d*(x1*y2+x2*y1)*x3*(y1*y2+x1*x2)*y3) := by
  unfold On at h1 h2 h3
  grind

/-- a point -/
structure Pt (n : Nat) [NeZero n] (d : Fin n) where
  x : Fin n
  y : Fin n
  on : On d x y

theorem Pt.ext' {d : Fin n} {p q : Pt n d} (hx : p.x = q.x) (hy : p.y = q.y) : p = q := by
  cases p; cases q; cases hx; cases hy; rfl

namespace Cur
variable {d : Fin n} (C : Cur n d)
include C

theorem on_add {x1 y1 x2 y2 : Fin n} (h1 : On d x1 y1) (h2 : On d x2 y2) : On d (addX d x1 y1 x2 y2) (addY d x1 y1 x2 y2) := by
  have e1 := C.toFld.mul_inv (C.den1 h1 h2)
  have e2 := C.toFld.mul_inv (C.den2 h1 h2)
  have hp := poly_on d x1 y1 x2 y2 h1 h2
  unfold On addX addY
  generalize hA : 1 + d * x1 * x2 * y1 * y2 = A at *
  generalize hB : 1 - d * x1 * x2 * y1 * y2 = B at *
  generalize x1*y2+x2*y1 = a at *
  generalize y1*y2+x1*x2 = b at *
  generalize inv A = A' at *
  generalize inv B = B' at *
  have q : (b * b * (A * A) - a * a * (B * B)) * (A' * A') * (B' * B') = (A * A * (B * B) + d * (a * a) * (b * b)) * (A' * A') * (B' * B') := by rw [hp]
  clear hA hB hp h1 h2
  grind

/-- the sum -/
def add (p q : Pt n d) : Pt n d := ⟨addX d p.x p.y q.x q.y, addY d p.x p.y q.x q.y, C.on_add p.on q.on⟩

omit C in
/-- nought -/
def zero : Pt n d := ⟨0, 1, by unfold On; grind⟩

omit C in
/-- the opposite -/
def neg (p : Pt n d) : Pt n d := ⟨-p.x, p.y, by have := p.on; unfold On at *; grind⟩

theorem frac_eq {a A b B : Fin n} (hA : A ≠ 0) (hB : B ≠ 0) (h : a * B = b * A) : a * inv A = b * inv B := by
  have e1 := C.toFld.mul_inv hA
  have e2 := C.toFld.mul_inv hB
  generalize inv A = A' at *
  generalize inv B = B' at *
  have : a * B * A' * B' = b * A * A' * B' := by rw [h]
  grind

theorem add_comm (p q : Pt n d) : C.add p q = C.add q p := by
  refine Pt.ext' ?_ ?_
  · show addX .. = addX ..
    unfold addX
    rw [show p.x * q.y + q.x * p.y = q.x * p.y + p.x * q.y from by grind, show 1 + d * p.x * q.x * p.y * q.y = 1 + d * q.x * p.x * q.y * p.y from by grind]
  · show addY .. = addY ..
    unfold addY
    rw [show p.y * q.y + p.x * q.x = q.y * p.y + q.x * p.x from by grind, show 1 - d * p.x * q.x * p.y * q.y = 1 - d * q.x * p.x * q.y * p.y from by grind]

theorem inv_one : inv (1 : Fin n) = 1 := by
  have := C.toFld.mul_inv C.toFld.one_ne
  grind

theorem add_zero (p : Pt n d) : C.add p zero = p := by
  have h1 := C.inv_one
  refine Pt.ext' ?_ ?_
  · show addX d p.x p.y 0 1 = p.x
    unfold addX
    rw [show 1 + d * p.x * 0 * p.y * 1 = 1 from by grind, h1]; grind
  · show addY d p.x p.y 0 1 = p.y
    unfold addY
    rw [show 1 - d * p.x * 0 * p.y * 1 = 1 from by grind, h1]; grind

theorem add_neg (p : Pt n d) : C.add p (neg p) = zero := by
  refine Pt.ext' ?_ ?_
  · show addX d p.x p.y (-p.x) p.y = 0
    unfold addX
    rw [show p.x * p.y + -p.x * p.y = 0 from by grind]; grind
  · show addY d p.x p.y (-p.x) p.y = 1
    have hd : 1 - d * p.x * -p.x * p.y * p.y ≠ 0 := C.den2 p.on (neg p).on
    have e := C.toFld.mul_inv hd
    unfold addY
    rw [show p.y * p.y + p.x * -p.x = 1 - d * p.x * -p.x * p.y * p.y from by have := p.on; unfold On at this; grind]
    exact e

/-- over common denominators -/
theorem sum_x {x1 y1 a A b B x3 y3 : Fin n} (hA : A ≠ 0) (hB : B ≠ 0) (hx : x1 = a * inv A) (hy : y1 = b * inv B) (h1 : On d x1 y1) (h3 : On d x3 y3) :
    A * B + d * a * x3 * b * y3 ≠ 0 ∧ A * B - d * a * x3 * b * y3 ≠ 0 ∧
    addX d x1 y1 x3 y3 = (a * B * y3 + x3 * b * A) * inv (A * B + d * a * x3 * b * y3) ∧ addY d x1 y1 x3 y3 = (b * A * y3 + a * B * x3) * inv (A * B - d * a * x3 * b * y3) := by
  have d1 := C.den1 h1 h3
  have d2 := C.den2 h1 h3
  have eA := C.toFld.mul_inv hA
  have eB := C.toFld.mul_inv hB
  have hAB := C.toFld.mul_ne hA hB
  have k1 : A * B + d * a * x3 * b * y3 = (A * B) * (1 + d * x1 * x3 * y1 * y3) := by
    rw [hx, hy]
    generalize inv A = A' at *
    generalize inv B = B' at *
    clear d1 d2 hx hy h1 h3
    grind
  have k2 : A * B - d * a * x3 * b * y3 = (A * B) * (1 - d * x1 * x3 * y1 * y3) := by
    rw [hx, hy]
    generalize inv A = A' at *
    generalize inv B = B' at *
    clear d1 d2 hx hy h1 h3 k1
    grind
  have n1 : A * B + d * a * x3 * b * y3 ≠ 0 := by rw [k1]; exact C.toFld.mul_ne hAB d1
  have n2 : A * B - d * a * x3 * b * y3 ≠ 0 := by rw [k2]; exact C.toFld.mul_ne hAB d2
  refine ⟨n1, n2, ?_, ?_⟩
  · unfold addX
    refine C.frac_eq d1 n1 ?_
    rw [k1]
    generalize 1 + d * x1 * x3 * y1 * y3 = D
    have : (x1 * y3 + x3 * y1) * (A * B) = a * B * y3 + x3 * b * A := by
      rw [hx, hy]
      generalize inv A = A' at *
      generalize inv B = B' at *
      clear d1 d2 hx hy h1 h3 k1 k2 n1 n2
      grind
    rw [← this]; grind
  · unfold addY
    refine C.frac_eq d2 n2 ?_
    rw [k2]
    generalize 1 - d * x1 * x3 * y1 * y3 = D
    have : (y1 * y3 + x1 * x3) * (A * B) = b * A * y3 + a * B * x3 := by
      rw [hx, hy]
      generalize inv A = A' at *
      generalize inv B = B' at *
      clear d1 d2 hx hy h1 h3 k1 k2 n1 n2
      grind
    rw [← this]; grind

theorem add_assoc (p q r : Pt n d) : C.add (C.add p q) r = C.add p (C.add q r) := by
  obtain ⟨a1, a2, a3, a4⟩ := C.sum_x (C.den1 p.on q.on) (C.den2 p.on q.on) rfl rfl (C.on_add p.on q.on) r.on
  obtain ⟨b1, b2, b3, b4⟩ := C.sum_x (C.den1 q.on r.on) (C.den2 q.on r.on) rfl rfl (C.on_add q.on r.on) p.on
  rw [C.add_comm p (C.add q r)]
  refine Pt.ext' ?_ ?_
  · refine a3.trans (Eq.trans (C.frac_eq a1 b1 ?_) b3.symm)
    have := poly_x d p.x p.y q.x q.y r.x r.y p.on q.on r.on
    generalize p.x*q.y+q.x*p.y = s1 at *
    generalize p.y*q.y+p.x*q.x = s2 at *
    generalize q.x*r.y+r.x*q.y = s3 at *
    generalize q.y*r.y+q.x*r.x = s4 at *
    generalize 1+d*p.x*q.x*p.y*q.y = s5 at *
    generalize 1-d*p.x*q.x*p.y*q.y = s6 at *
    generalize 1+d*q.x*r.x*q.y*r.y = s7 at *
    generalize 1-d*q.x*r.x*q.y*r.y = s8 at *
    clear a1 a2 a3 a4 b1 b2 b3 b4
    grind
  · refine a4.trans (Eq.trans (C.frac_eq a2 b2 ?_) b4.symm)
    have := poly_y d p.x p.y q.x q.y r.x r.y p.on q.on r.on
    generalize p.x*q.y+q.x*p.y = s1 at *
    generalize p.y*q.y+p.x*q.x = s2 at *
    generalize q.x*r.y+r.x*q.y = s3 at *
    generalize q.y*r.y+q.x*r.x = s4 at *
    generalize 1+d*p.x*q.x*p.y*q.y = s5 at *
    generalize 1-d*p.x*q.x*p.y*q.y = s6 at *
    generalize 1+d*q.x*r.x*q.y*r.y = s7 at *
    generalize 1-d*q.x*r.x*q.y*r.y = s8 at *
    clear a1 a2 a3 a4 b1 b2 b3 b4
    grind

/-- so often -/
def mul (p : Pt n d) : Nat → Pt n d
  | 0 => zero
  | k + 1 => C.add (mul p k) p

theorem zero_add (p : Pt n d) : C.add zero p = p := by rw [C.add_comm, C.add_zero]

theorem mul_add (p : Pt n d) (a b : Nat) : C.mul p (a + b) = C.add (C.mul p a) (C.mul p b) := by
  induction b with
  | zero => exact (C.add_zero _).symm
  | succ b ih => show C.add (C.mul p (a + b)) p = C.add (C.mul p a) (C.add (C.mul p b) p); rw [ih, C.add_assoc]

theorem mul_mul (p : Pt n d) (a b : Nat) : C.mul (C.mul p a) b = C.mul p (a * b) := by
  induction b with
  | zero => rfl
  | succ b ih => show C.add (C.mul (C.mul p a) b) (C.mul p a) = _; rw [ih, ← C.mul_add]; rfl

theorem mul_zero (k : Nat) : C.mul zero k = zero := by
  induction k with
  | zero => rfl
  | succ k ih => show C.add (C.mul zero k) zero = _; rw [ih, C.add_zero]

theorem mul_sum (p q : Pt n d) (k : Nat) : C.mul (C.add p q) k = C.add (C.mul p k) (C.mul q k) := by
  induction k with
  | zero => exact (C.add_zero _).symm
  | succ k ih =>
    show C.add (C.mul (C.add p q) k) (C.add p q) = C.add (C.add (C.mul p k) p) (C.add (C.mul q k) q)
    rw [ih, C.add_assoc, C.add_assoc, ← C.add_assoc (C.mul q k) p q, C.add_comm (C.mul q k) p, C.add_assoc p]

theorem add_cancel {p q r : Pt n d} (h : C.add p r = C.add q r) : p = q := by
  have : C.add (C.add p r) (neg r) = C.add (C.add q r) (neg r) := by rw [h]
  rwa [C.add_assoc, C.add_assoc, C.add_neg, C.add_zero, C.add_zero] at this

end Cur

end Ec

/- The field of 2^255 - 19, the curve's number, the base; the base so often as L says is nought. -/
namespace Ec

def P : Nat := 57896044618658097711785492504343953926634992332820282019728792003956564819949
def L : Nat := 7237005577332262213973186563042994240857116359379907606001950938285454250989
instance : NeZero P := ⟨by decide⟩
theorem genP' : Gen P 2 := genP
theorem genL' : Gen L 2 := genL

theorem val_pow {n : Nat} [NeZero n] (x : Fin n) (k : Nat) : (x ^ k).val = x.val ^ k % n := by
  induction k with
  | zero => 
    have : (x ^ 0 : Fin n) = 1 := by grind
    rw [this]
    show 1 % n = _
    simp
  | succ k ih =>
    have : (x ^ (k + 1) : Fin n) = x ^ k * x := by grind
    rw [this, Fin.val_mul, ih, Nat.pow_succ, Nat.mod_mul_mod]

theorem fldP : Fld P where
  big := by decide
  fermat := by
    intro x hx
    have h := genP'.fermat (x := x.val) (by
      rcases Nat.eq_zero_or_pos x.val with h | h
      · exact absurd (Fin.ext h) hx
      · exact h) x.isLt
    refine Fin.ext ?_
    rw [val_pow, h]
    rfl

def D : Fin P := ⟨37095705934669439343138083508754565189542113879843219016388785533085940283555, by decide⟩
def BX : Fin P := ⟨15112221349535400772501151409588531511454012693041857206046113283949847762202, by decide⟩
def BY : Fin P := ⟨46316835694926478169428394003475163141307993866256225615783033603165251855960, by decide⟩
/-- a root of -1 -/
def I : Fin P := ⟨19681161376707505956807079304988542015446066515923890162744021073123829784752, by decide⟩

theorem I_sq : I * I = -1 := by decide +kernel

theorem pow_val (x : Fin P) (k : Nat) (hk : k < 2 ^ 600) : (x ^ k).val = pw P 600 x.val k 1 := by
  rw [val_pow, pw_eq P (by decide) 600 _ _ _ hk (by decide), Nat.one_mul]

theorem pw_half : pw P 600 37095705934669439343138083508754565189542113879843219016388785533085940283555 28948022309329048855892746252171976963317496166410141009864396001978282409974 1 = 57896044618658097711785492504343953926634992332820282019728792003956564819948 := by decide +kernel

theorem D_half : D ^ ((P - 1) / 2) = -1 := by
  refine Fin.ext ?_
  rw [pow_val _ _ (by decide +kernel)]
  exact pw_half

theorem curP : Cur P D where
  toFld := fldP
  root := ⟨I, I_sq⟩
  nsq := by
    intro z hz
    have hz0 : z ≠ 0 := by
      intro h
      subst h
      have : D ≠ 0 := by decide
      exact this (by rw [← hz]; grind)
    have h1 := fldP.fermat z hz0
    have h2 := D_half
    rw [← hz] at h2
    have e : (z * z) ^ ((P - 1) / 2) = z ^ (P - 1) := by
      have : z * z = z ^ 2 := by grind
      rw [this]
      generalize hm : (P - 1) / 2 = m
      have hP : P - 1 = 2 * m := by
        have : (P - 1) % 2 = 0 := by decide +kernel
        omega
      rw [hP]
      clear h2 h1 hm hP hz
      induction m with
      | zero => grind
      | succ m ih =>
        have a : z ^ (2 * (m + 1)) = z ^ (2 * m) * z ^ 2 := by
          rw [show 2 * (m + 1) = 2 * m + 2 from by omega]; grind
        have b : (z ^ 2) ^ (m + 1) = (z ^ 2) ^ m * z ^ 2 := by grind
        rw [a, b, ih]
    rw [e, h1] at h2
    exact absurd h2 (by decide +kernel)

theorem on_base : On D BX BY := by unfold On; decide +kernel
def B : Pt P D := ⟨BX, BY, on_base⟩

theorem D_is : D * 121666 = -121665 := by decide +kernel
theorem BY_is : BY * 5 = 4 := by decide +kernel

end Ec

/- Points as four numbers, and as three: what their sums, opposites and multiples stand for. -/
namespace Ec

/-- doubled, and added where a bit is set: bits, the highest first -/
def often {α : Type} (add : α → α → α) (p : α) : List Bool → α → α
  | [], r => r
  | false :: bs, r => often add p bs (add r r)
  | true :: bs, r => often add p bs (add (add r r) p)

/-- the number that bits say, the highest first -/
def numOf : List Bool → Nat → Nat
  | [], n => n
  | false :: bs, n => numOf bs (2 * n)
  | true :: bs, n => numOf bs (2 * n + 1)

theorem often_rel {α β : Type} {add : α → α → α} {mul : Nat → β} {R : α → β → Prop} {p : α} (h2 : ∀ r n, R r (mul n) → R (add r r) (mul (2 * n)))
    (h1 : ∀ r n, R r (mul n) → R (add r p) (mul (n + 1))) : ∀ (bs : List Bool) (r : α) (n : Nat), R r (mul n) → R (often add p bs r) (mul (numOf bs n)) := by
  intro bs
  induction bs with
  | nil => exact fun _ _ h => h
  | cons b bs ih =>
    intro r n hr
    cases b
    · exact ih _ _ (h2 _ _ hr)
    · exact ih _ _ (h1 _ _ (h2 _ _ hr))

/-- four numbers: x / z, y / z, and t = x y / z -/
structure X4 where
  x : Fin P
  y : Fin P
  z : Fin P
  t : Fin P
  deriving DecidableEq

/-- three numbers: x / z, y / z -/
structure R3 where
  x : Fin P
  y : Fin P
  z : Fin P
  deriving DecidableEq

def X4.nil : X4 := ⟨0, 0, 0, 0⟩
def X4.nought : X4 := ⟨0, 1, 1, 0⟩
def X4.whole (p : X4) : X4 := if p = X4.nil then X4.nought else p

/-- the sum of two that are whole -/
def X4.add0 (p q : X4) : X4 :=
  let a := (p.y - p.x) * (q.y - q.x)
  let b := (p.y + p.x) * (q.y + q.x)
  let c := p.t * q.t * D
  let c := c + c
  let d := p.z * q.z
  let d := d + d
  let e := b - a
  let f := d - c
  let g := d + c
  let h := b + a
  ⟨e * f, g * h, f * g, e * h⟩
def X4.add (p q : X4) : X4 := X4.add0 p.whole q.whole
def X4.neg (p : X4) : X4 := ⟨-p.whole.x, p.whole.y, p.whole.z, -p.whole.t⟩
def X4.mulBits (p : X4) (l : List Bool) (r : X4) : X4 := often X4.add p l r
def X4.same (p q : X4) : Bool := decide (p.whole.x * q.whole.z = q.whole.x * p.whole.z) && decide (p.whole.y * q.whole.z = q.whole.y * p.whole.z)

def R3.nought : R3 := ⟨0, 1, 1⟩
def R3.add (p q : R3) : R3 :=
  let z := p.z * q.z
  let xw := p.x * q.y
  let zy := q.x * p.y
  let yw := p.y * q.y
  let xz := p.x * q.x
  let zz := z * z
  let d := D * (xw * zy)
  let up := zz + d
  let down := zz - d
  ⟨(xw + zy) * z * down, (yw + xz) * z * up, up * down⟩
def R3.neg (p : R3) : R3 := ⟨-p.x, p.y, p.z⟩
def R3.mulBits (p : R3) (l : List Bool) (r : R3) : R3 := often R3.add p l r
def R3.same (p q : R3) : Bool := decide (p.x * q.z = q.x * p.z) && decide (p.y * q.z = q.y * p.z)

/-- four numbers that are whole stand for a point -/
structure Rep0 (p : X4) (a : Pt P D) : Prop where
  z : p.z ≠ 0
  x : p.x = a.x * p.z
  y : p.y = a.y * p.z
  t : p.t = a.x * a.y * p.z
def Rep (p : X4) (a : Pt P D) : Prop := Rep0 p.whole a
structure RepR (p : R3) (a : Pt P D) : Prop where
  z : p.z ≠ 0
  x : p.x = a.x * p.z
  y : p.y = a.y * p.z

theorem whole_of {p : X4} (h : p.z ≠ 0) : p.whole = p := by
  unfold X4.whole
  rw [if_neg]
  intro e
  rw [e] at h
  exact h rfl

theorem Rep0.rep {p : X4} {a : Pt P D} (h : Rep0 p a) : Rep p a := by
  unfold Rep
  rw [whole_of h.z]
  exact h

theorem rep_nil : Rep X4.nil Cur.zero := by
  have e : X4.nil.whole = X4.nought := by decide +kernel
  unfold Rep
  rw [e]
  exact ⟨by decide +kernel, by decide +kernel, by decide +kernel, by decide +kernel⟩
theorem rep_nought : Rep X4.nought Cur.zero := (⟨by decide +kernel, by decide +kernel, by decide +kernel, by decide +kernel⟩ : Rep0 X4.nought Cur.zero).rep
theorem repR_nought : RepR R3.nought Cur.zero := ⟨by decide +kernel, by decide +kernel, by decide +kernel⟩

abbrev padd (a b : Pt P D) : Pt P D := curP.add a b
abbrev pmul (a : Pt P D) (k : Nat) : Pt P D := curP.mul a k

section
variable {n : Nat} [NeZero n]
theorem r1 (c u v z : Fin n) : 2 * (c * u) * z * (2 * v * z) = c * (2 * v * z * (2 * u * z)) := by grind
theorem r2 (c u v z : Fin n) : 2 * u * z * (2 * (c * v) * z) = c * (2 * v * z * (2 * u * z)) := by grind
theorem r3 (c e u v z : Fin n) : 2 * (c * u) * z * (2 * (e * v) * z) = c * e * (2 * v * z * (2 * u * z)) := by grind
theorem r4 (c u v z : Fin n) : c * u * z * z * (v * (z * z)) = c * (u * (z * z) * (v * (z * z))) := by grind
theorem r5 (c u v z : Fin n) : c * v * z * z * (u * (z * z)) = c * (u * (z * z) * (v * (z * z))) := by grind
theorem r6 (ax ay bx b_y pz qz : Fin n) : (ay * pz + ax * pz) * (b_y * qz + bx * qz) - (ay * pz - ax * pz) * (b_y * qz - bx * qz) = 2 * (ax * b_y + bx * ay) * (pz * qz) := by grind
theorem r7 (ax ay bx b_y pz qz : Fin n) : (ay * pz + ax * pz) * (b_y * qz + bx * qz) + (ay * pz - ax * pz) * (b_y * qz - bx * qz) = 2 * (ay * b_y + ax * bx) * (pz * qz) := by grind
theorem r8 (d ax ay bx b_y pz qz : Fin n) : pz * qz + pz * qz + (ax * ay * pz * (bx * b_y * qz) * d + ax * ay * pz * (bx * b_y * qz) * d) = 2 * (1 + d * ax * bx * ay * b_y) * (pz * qz) := by grind
theorem r9 (d ax ay bx b_y pz qz : Fin n) : pz * qz + pz * qz - (ax * ay * pz * (bx * b_y * qz) * d + ax * ay * pz * (bx * b_y * qz) * d) = 2 * (1 - d * ax * bx * ay * b_y) * (pz * qz) := by grind
theorem r10 (u v w : Fin n) (h : u * v = 1) : w * v * u = w := by grind
theorem r11 (d ax ay bx b_y pz qz : Fin n) : (pz * qz) * (pz * qz) + d * ((ax * pz * (b_y * qz)) * (bx * qz * (ay * pz))) = (1 + d * ax * bx * ay * b_y) * ((pz * qz) * (pz * qz)) := by grind
theorem r12 (d ax ay bx b_y pz qz : Fin n) : (pz * qz) * (pz * qz) - d * ((ax * pz * (b_y * qz)) * (bx * qz * (ay * pz))) = (1 - d * ax * bx * ay * b_y) * ((pz * qz) * (pz * qz)) := by grind
theorem r13 (ax ay bx b_y pz qz : Fin n) : ax * pz * (b_y * qz) + bx * qz * (ay * pz) = (ax * b_y + bx * ay) * (pz * qz) := by grind
theorem r14 (ax ay bx b_y pz qz : Fin n) : ay * pz * (b_y * qz) + ax * pz * (bx * qz) = (ay * b_y + ax * bx) * (pz * qz) := by grind
end

theorem padd_x (a b : Pt P D) : (padd a b).x * (1 + D * a.x * b.x * a.y * b.y) = a.x * b.y + b.x * a.y :=
  r10 _ _ _ (fldP.mul_inv (curP.den1 a.on b.on))
theorem padd_y (a b : Pt P D) : (padd a b).y * (1 - D * a.x * b.x * a.y * b.y) = a.y * b.y + a.x * b.x :=
  r10 _ _ _ (fldP.mul_inv (curP.den2 a.on b.on))

theorem Rep0.add {p q : X4} {a b : Pt P D} (hp : Rep0 p a) (hq : Rep0 q b) : Rep0 (X4.add0 p q) (padd a b) := by
  have d1 := curP.den1 a.on b.on
  have d2 := curP.den2 a.on b.on
  have ax := padd_x a b
  have ay := padd_y a b
  obtain ⟨hz, hx, hy, ht⟩ := hp
  obtain ⟨gz, gx, gy, gt⟩ := hq
  have tn := fldP.two_ne
  have zz := fldP.mul_ne hz gz
  have nf := fldP.mul_ne (fldP.mul_ne tn d2) zz
  have ng := fldP.mul_ne (fldP.mul_ne tn d1) zz
  have he : (p.y + p.x) * (q.y + q.x) - (p.y - p.x) * (q.y - q.x) = 2 * (a.x * b.y + b.x * a.y) * (p.z * q.z) := by rw [hx, hy, gx, gy]; exact r6 _ _ _ _ _ _
  have hh : (p.y + p.x) * (q.y + q.x) + (p.y - p.x) * (q.y - q.x) = 2 * (a.y * b.y + a.x * b.x) * (p.z * q.z) := by rw [hx, hy, gx, gy]; exact r7 _ _ _ _ _ _
  have hg : p.z * q.z + p.z * q.z + (p.t * q.t * D + p.t * q.t * D) = 2 * (1 + D * a.x * b.x * a.y * b.y) * (p.z * q.z) := by rw [ht, gt]; exact r8 _ _ _ _ _ _ _
  have hf : p.z * q.z + p.z * q.z - (p.t * q.t * D + p.t * q.t * D) = 2 * (1 - D * a.x * b.x * a.y * b.y) * (p.z * q.z) := by rw [ht, gt]; exact r9 _ _ _ _ _ _ _
  rw [← ax] at he
  rw [← ay] at hh
  refine ⟨?_, ?_, ?_, ?_⟩
  · show (p.z * q.z + p.z * q.z - (p.t * q.t * D + p.t * q.t * D)) * (p.z * q.z + p.z * q.z + (p.t * q.t * D + p.t * q.t * D)) ≠ (0 : Fin P)
    rw [hf, hg]
    exact fldP.mul_ne nf ng
  · show ((p.y + p.x) * (q.y + q.x) - (p.y - p.x) * (q.y - q.x)) * (p.z * q.z + p.z * q.z - (p.t * q.t * D + p.t * q.t * D)) = (padd a b).x * ((p.z * q.z + p.z * q.z - (p.t * q.t * D + p.t * q.t * D)) * (p.z * q.z + p.z * q.z + (p.t * q.t * D + p.t * q.t * D)))
    rw [hf, hg, he]
    exact r1 _ _ _ _
  · show (p.z * q.z + p.z * q.z + (p.t * q.t * D + p.t * q.t * D)) * ((p.y + p.x) * (q.y + q.x) + (p.y - p.x) * (q.y - q.x)) = (padd a b).y * ((p.z * q.z + p.z * q.z - (p.t * q.t * D + p.t * q.t * D)) * (p.z * q.z + p.z * q.z + (p.t * q.t * D + p.t * q.t * D)))
    rw [hf, hg, hh]
    exact r2 _ _ _ _
  · show ((p.y + p.x) * (q.y + q.x) - (p.y - p.x) * (q.y - q.x)) * ((p.y + p.x) * (q.y + q.x) + (p.y - p.x) * (q.y - q.x)) = (padd a b).x * (padd a b).y * ((p.z * q.z + p.z * q.z - (p.t * q.t * D + p.t * q.t * D)) * (p.z * q.z + p.z * q.z + (p.t * q.t * D + p.t * q.t * D)))
    rw [hf, hg, he, hh]
    exact r3 _ _ _ _ _

theorem Rep.add {p q : X4} {a b : Pt P D} (hp : Rep p a) (hq : Rep q b) : Rep (X4.add p q) (padd a b) := (Rep0.add hp hq).rep

theorem Rep.neg {p : X4} {a : Pt P D} (hp : Rep p a) : Rep (X4.neg p) (Cur.neg a) := by
  unfold X4.neg
  unfold Rep at hp
  generalize p.whole = p' at *
  obtain ⟨hz, hx, hy, ht⟩ := hp
  refine Rep0.rep ⟨hz, ?_, ?_, ?_⟩
  · show -p'.x = -a.x * p'.z
    rw [hx]; grind
  · exact hy
  · show -p'.t = -a.x * a.y * p'.z
    rw [ht]; grind

theorem RepR.add {p q : R3} {a b : Pt P D} (hp : RepR p a) (hq : RepR q b) : RepR (R3.add p q) (padd a b) := by
  have d1 := curP.den1 a.on b.on
  have d2 := curP.den2 a.on b.on
  have ax := padd_x a b
  have ay := padd_y a b
  obtain ⟨hz, hx, hy⟩ := hp
  obtain ⟨gz, gx, gy⟩ := hq
  have zz := fldP.mul_ne hz gz
  have zzz := fldP.mul_ne zz zz
  have nu := fldP.mul_ne d1 zzz
  have nd := fldP.mul_ne d2 zzz
  have hu : (p.z * q.z) * (p.z * q.z) + D * ((p.x * q.y) * (q.x * p.y)) = (1 + D * a.x * b.x * a.y * b.y) * ((p.z * q.z) * (p.z * q.z)) := by rw [hx, hy, gx, gy]; exact r11 _ _ _ _ _ _ _
  have hd : (p.z * q.z) * (p.z * q.z) - D * ((p.x * q.y) * (q.x * p.y)) = (1 - D * a.x * b.x * a.y * b.y) * ((p.z * q.z) * (p.z * q.z)) := by rw [hx, hy, gx, gy]; exact r12 _ _ _ _ _ _ _
  have e1 : p.x * q.y + q.x * p.y = (a.x * b.y + b.x * a.y) * (p.z * q.z) := by rw [hx, hy, gx, gy]; exact r13 _ _ _ _ _ _
  have e2 : p.y * q.y + p.x * q.x = (a.y * b.y + a.x * b.x) * (p.z * q.z) := by rw [hx, hy, gx, gy]; exact r14 _ _ _ _ _ _
  rw [← ax] at e1
  rw [← ay] at e2
  refine ⟨?_, ?_, ?_⟩
  · show ((p.z * q.z) * (p.z * q.z) + D * ((p.x * q.y) * (q.x * p.y))) * ((p.z * q.z) * (p.z * q.z) - D * ((p.x * q.y) * (q.x * p.y))) ≠ 0
    rw [hu, hd]
    exact fldP.mul_ne nu nd
  · show (p.x * q.y + q.x * p.y) * (p.z * q.z) * ((p.z * q.z) * (p.z * q.z) - D * ((p.x * q.y) * (q.x * p.y))) = (padd a b).x * (((p.z * q.z) * (p.z * q.z) + D * ((p.x * q.y) * (q.x * p.y))) * ((p.z * q.z) * (p.z * q.z) - D * ((p.x * q.y) * (q.x * p.y))))
    rw [hu, hd, e1]
    exact r4 _ _ _ _
  · show (p.y * q.y + p.x * q.x) * (p.z * q.z) * ((p.z * q.z) * (p.z * q.z) + D * ((p.x * q.y) * (q.x * p.y))) = (padd a b).y * (((p.z * q.z) * (p.z * q.z) + D * ((p.x * q.y) * (q.x * p.y))) * ((p.z * q.z) * (p.z * q.z) - D * ((p.x * q.y) * (q.x * p.y))))
    rw [hu, hd, e2]
    exact r5 _ _ _ _

theorem RepR.neg {p : R3} {a : Pt P D} (hp : RepR p a) : RepR (R3.neg p) (Cur.neg a) := by
  obtain ⟨hz, hx, hy⟩ := hp
  refine ⟨hz, ?_, hy⟩
  show -p.x = -a.x * p.z
  rw [hx]; grind

theorem pmul_succ (a : Pt P D) (n : Nat) : pmul a (n + 1) = padd (pmul a n) a := rfl

theorem pmul_two (a : Pt P D) (n : Nat) : padd (pmul a n) (pmul a n) = pmul a (2 * n) := by
  rw [show 2 * n = n + n from by omega]; exact (curP.mul_add a n n).symm

theorem Rep.mul {p : X4} {a : Pt P D} (hp : Rep p a) (bs : List Bool) (r : X4) (n : Nat) (h : Rep r (pmul a n)) : Rep (X4.mulBits p bs r) (pmul a (numOf bs n)) :=
  often_rel (R := Rep) (mul := fun n => pmul a n) (fun r n h => by have := Rep.add h h; rw [pmul_two] at this; exact this) (fun r n h => Rep.add h hp) bs r n h

theorem RepR.mul {p : R3} {a : Pt P D} (hp : RepR p a) (bs : List Bool) (r : R3) (n : Nat) (h : RepR r (pmul a n)) : RepR (R3.mulBits p bs r) (pmul a (numOf bs n)) :=
  often_rel (R := RepR) (mul := fun n => pmul a n) (fun r n h => by have := RepR.add h h; rw [pmul_two] at this; exact this) (fun r n h => RepR.add h hp) bs r n h

theorem Rep.same {p q : X4} {a b : Pt P D} (hp : Rep p a) (hq : Rep q b) : X4.same p q = decide (a.x = b.x ∧ a.y = b.y) := by
  unfold X4.same
  unfold Rep at hp hq
  generalize p.whole = p' at *
  generalize q.whole = q' at *
  have zz := fldP.mul_ne hp.z hq.z
  rw [hp.x, hp.y, hq.x, hq.y, ← Bool.decide_and]
  refine decide_eq_decide.2 ⟨fun ⟨h1, h2⟩ => ?_, fun ⟨h1, h2⟩ => ?_⟩
  · exact ⟨fldP.cancel zz (by grind), fldP.cancel zz (by grind)⟩
  · rw [h1, h2]; exact ⟨by grind, by grind⟩

theorem RepR.same {p q : R3} {a b : Pt P D} (hp : RepR p a) (hq : RepR q b) : R3.same p q = decide (a.x = b.x ∧ a.y = b.y) := by
  unfold R3.same
  have zz := fldP.mul_ne hp.z hq.z
  rw [hp.x, hp.y, hq.x, hq.y, ← Bool.decide_and]
  refine decide_eq_decide.2 ⟨fun ⟨h1, h2⟩ => ?_, fun ⟨h1, h2⟩ => ?_⟩
  · exact ⟨fldP.cancel zz (by grind), fldP.cancel zz (by grind)⟩
  · rw [h1, h2]; exact ⟨by grind, by grind⟩

theorem Rep.flat {p : X4} {a : Pt P D} (hp : Rep p a) : p.whole.x * inv p.whole.z = a.x ∧ p.whole.y * inv p.whole.z = a.y := by
  unfold Rep at hp
  generalize p.whole = p' at *
  have i := fldP.mul_inv hp.z
  rw [hp.x, hp.y]
  constructor <;> grind
theorem RepR.flat {p : R3} {a : Pt P D} (hp : RepR p a) : p.x * inv p.z = a.x ∧ p.y * inv p.z = a.y := by
  have i := fldP.mul_inv hp.z
  rw [hp.x, hp.y]
  constructor <;> grind

/-- k's bits, so many, the highest first, ahead of others -/
def bitsOf : Nat → Nat → List Bool → List Bool
  | 0, _, l => l
  | k + 1, n, l => bitsOf k (n / 2) ((n % 2 == 1) :: l)

theorem numOf_bitsOf : ∀ (k n : Nat) (l : List Bool) (m : Nat), n < 2 ^ k → numOf (bitsOf k n l) m = numOf l (m * 2 ^ k + n) := by
  intro k
  induction k with
  | zero =>
    intro n l m h
    have : n = 0 := by simpa using h
    subst this
    simp [bitsOf]
  | succ k ih =>
    intro n l m h
    unfold bitsOf
    rw [ih _ _ _ (by rw [Nat.pow_succ] at h; omega)]
    rw [Nat.pow_succ, ← Nat.mul_assoc]
    generalize m * 2 ^ k = q at *
    have : n % 2 = 0 ∨ n % 2 = 1 := by omega
    rcases this with h | h
    · rw [h]
      show numOf l (2 * (q + n / 2)) = _
      congr 1
      omega
    · rw [h]
      show numOf l (2 * (q + n / 2) + 1) = _
      congr 1
      omega

def base4 : X4 := ⟨BX, BY, 1, BX * BY⟩
theorem rep_base : Rep base4 B := (⟨by decide +kernel, by decide +kernel, by decide +kernel, by decide +kernel⟩ : Rep0 base4 B).rep

theorem base_L0 : X4.same (X4.mulBits base4 (bitsOf 256 L []) X4.nought) X4.nought = true := by decide +kernel

theorem base_L : pmul B L = Cur.zero := by
  have h := rep_base.mul (bitsOf 256 L []) X4.nought 0 rep_nought
  rw [numOf_bitsOf _ _ _ _ (by decide +kernel)] at h
  have e : numOf [] (0 * 2 ^ 256 + L) = L := by simp [numOf]
  rw [e] at h
  have hs := h.same rep_nought
  rw [base_L0] at hs
  have := of_decide_eq_true hs.symm
  exact Pt.ext' this.1 this.2

end Ec

/- Square roots modulo a prime that is five more than a multiple of eight. -/
namespace Ec

section
variable {n : Nat} [NeZero n]

def evenI (x : Fin n) : Fin n := cond (x.val % 2 == 1) (-x) x
def isR (u v x : Fin n) : Bool := decide (v * (x * x) = u)
def rootR (m : Nat) (u v : Fin n) : Fin n := (u * inv v) ^ (m + 1)
def rootS (m : Nat) : Fin n := 2 ^ (2 * m + 1)
/-- the even root of u / v, and is there one? -/
def root (m : Nat) (u v : Fin n) : Fin n × Bool :=
  cond (isR u v (rootR m u v)) (evenI (rootR m u v), true) (cond (isR u v (rootR m u v * rootS m)) (evenI (rootR m u v * rootS m), true) (0, false))

theorem val_neg (x : Fin n) (h : x ≠ 0) : (-x).val = n - x.val := by
  have hx : 0 < x.val := Nat.pos_of_ne_zero fun e => h (Fin.ext (by simpa using e))
  have hl := x.isLt
  rw [Fin.val_neg, if_neg h]

theorem neg_zero' : (-0 : Fin n) = 0 := by grind
theorem neg_neg' (x : Fin n) : - -x = x := by grind
theorem neg_ne {x : Fin n} (h : x ≠ 0) : -x ≠ 0 := fun e => h (by have := congrArg (- ·) e; simp only [neg_neg', neg_zero'] at this; exact this)

theorem evenI_neg (hn : n % 2 = 1) (x : Fin n) : evenI (-x) = evenI x := by
  by_cases h : x = 0
  · subst h; rw [neg_zero']
  · unfold evenI
    have hl := x.isLt
    rw [val_neg x h, neg_neg']
    have : x.val % 2 = 0 ∨ x.val % 2 = 1 := by omega
    rcases this with h1 | h1
    · rw [h1, show (n - x.val) % 2 = 1 by omega]; rfl
    · rw [h1, show (n - x.val) % 2 = 0 by omega]; rfl

omit [NeZero n] in
theorem evenI_or (x : Fin n) : evenI x = x ∨ evenI x = -x := by
  unfold evenI
  cases (x.val % 2 == 1)
  · exact .inl rfl
  · exact .inr rfl
theorem evenI_even (hn : n % 2 = 1) (x : Fin n) : (evenI x).val % 2 = 0 := by
  unfold evenI
  have hl := x.isLt
  have : x.val % 2 = 0 ∨ x.val % 2 = 1 := by omega
  rcases this with h1 | h1
  · rw [h1]; exact h1
  · have h : x ≠ 0 := by rintro rfl; simp at h1
    rw [h1]
    show (-x).val % 2 = 0
    rw [val_neg x h]
    omega
theorem evenI_sq (x : Fin n) : evenI x * evenI x = x * x := by
  rcases evenI_or x with h | h <;> rw [h]
  grind
omit [NeZero n] in
theorem evenI_id {x : Fin n} (h : x.val % 2 = 0) : evenI x = x := by unfold evenI; rw [h]; rfl

theorem pow_add' (x : Fin n) (a b : Nat) : x ^ a * x ^ b = x ^ (a + b) := by
  refine Fin.ext ?_
  rw [Fin.val_mul, val_pow, val_pow, val_pow, ← Nat.mul_mod, ← Nat.pow_add]
theorem mul_pow' (x y : Fin n) (a : Nat) : (x * y) ^ a = x ^ a * y ^ a := by
  refine Fin.ext ?_
  rw [Fin.val_mul, val_pow, val_pow, val_pow, Fin.val_mul, ← Nat.mul_mod, ← Nat.mul_pow, ← Nat.pow_mod]
theorem pow_one' (x : Fin n) : x ^ 1 = x := by grind
theorem zero_pow' (a : Nat) : (0 : Fin n) ^ (a + 1) = 0 := by rw [← pow_add', pow_one']; grind

variable (F : Fld n) {m : Nat} (hn : n = 8 * m + 5) (h2 : (2 : Fin n) ^ (4 * m + 2) = -1)
include F

theorem Fld.sq_eq {x y : Fin n} (h : x * x = y * y) : x = y ∨ x = -y := by
  have : (x - y) * (x + y) = 0 := by grind
  rcases F.or_of_mul this with h | h
  · exact .inl (by grind)
  · exact .inr (by grind)
omit F in
theorem even_of_sq (hodd : n % 2 = 1) {x y : Fin n} (h : x = y ∨ x = -y) : evenI x = evenI y := by
  rcases h with h | h
  · rw [h]
  · rw [h, evenI_neg hodd]

theorem Fld.isR_iff {u v x : Fin n} (hv : v ≠ 0) : isR u v x = decide (x * x = u * inv v) := by
  unfold isR
  refine decide_eq_decide.2 ⟨fun h => ?_, fun h => ?_⟩
  · have := F.mul_inv hv; rw [← h]; grind
  · have := F.mul_inv hv; rw [h]; grind

include hn
omit F hn in
theorem rr (q : Fin n) : q ^ (m + 1) * q ^ (m + 1) = q * q ^ (2 * m + 1) := by
  have := pow_add' q 1 (2 * m + 1)
  rw [pow_one'] at this
  rw [this, pow_add']
  congr 1
  omega
omit F hn in
theorem ss (q : Fin n) : q ^ (2 * m + 1) * q ^ (2 * m + 1) = q ^ (4 * m + 2) := by
  rw [pow_add']
  congr 1
  omega
theorem Fld.half_or {x : Fin n} (hx : x ≠ 0) : x ^ (4 * m + 2) = 1 ∨ x ^ (4 * m + 2) = -1 := by
  have h := F.fermat x hx
  have e : n - 1 = (4 * m + 2) + (4 * m + 2) := by omega
  rw [e, ← pow_add'] at h
  have := F.sq_eq (x := x ^ (4 * m + 2)) (y := 1) (by rw [h]; grind)
  exact this

include h2
theorem Fld.root_of {u v x : Fin n} (hv : v ≠ 0) (h : v * (x * x) = u) : root m u v = (evenI x, true) := by
  have hq : u * inv v = x * x := by
    have := F.mul_inv hv; rw [← h]; grind
  have hodd : n % 2 = 1 := by omega
  unfold root
  simp only [F.isR_iff hv]
  unfold rootR rootS
  rw [hq]
  generalize hr : (x * x) ^ (m + 1) = r
  have h0 := rr (m := m) (x * x)
  rw [hr] at h0
  have h1 := ss (m := m) (2 : Fin n)
  rw [h2] at h1
  by_cases hx : x = 0
  · subst hx
    have hr0 : r * r = 0 * 0 := by grind
    rw [show decide (r * r = 0 * 0) = true from decide_eq_true hr0]
    have : r = 0 := F.sq_zero (by rw [hr0]; grind)
    subst this
    rfl
  · have hxx : (x * x) ^ (2 * m + 1) = x ^ (4 * m + 2) := by
      rw [mul_pow', pow_add']; congr 1; omega
    rw [hxx] at h0
    have ht := F.mul_ne hx hx
    rcases F.half_or hn hx with e | e
    · have hs : r * r = x * x := by rw [h0, e]; grind
      rw [show decide (r * r = x * x) = true from decide_eq_true hs]
      show (evenI r, true) = _
      rw [even_of_sq hodd (F.sq_eq hs)]
    · have hs : r * r = -(x * x) := by rw [h0, e]; grind
      have hne : ¬ r * r = x * x := by
        intro e2
        rw [hs] at e2
        have : 2 * (x * x) = 0 := by grind
        exact F.mul_ne F.two_ne ht this
      rw [show decide (r * r = x * x) = false from decide_eq_false hne]
      generalize hS : (2 : Fin n) ^ (2 * m + 1) = S at *
      have hs2 : r * S * (r * S) = x * x := by grind
      rw [show decide (r * S * (r * S) = x * x) = true from decide_eq_true hs2]
      show (evenI (r * S), true) = _
      rw [even_of_sq hodd (F.sq_eq hs2)]

omit h2 F in
theorem root_is {u v : Fin n} (h : (root m u v).2 = true) : v * ((root m u v).1 * (root m u v).1) = u ∧ (root m u v).1.val % 2 = 0 := by
  have hodd : n % 2 = 1 := by omega
  unfold root at *
  cases h1 : isR u v (rootR m u v) with
  | true =>
    simp only [cond_true]
    rw [evenI_sq]
    exact ⟨of_decide_eq_true h1, evenI_even hodd _⟩
  | false =>
    rw [h1] at h
    simp only [cond_false] at h ⊢
    cases h3 : isR u v (rootR m u v * rootS m) with
    | true =>
      simp only [cond_true]
      rw [evenI_sq]
      exact ⟨of_decide_eq_true h3, evenI_even hodd _⟩
    | false => rw [h3] at h; cases h

/-- the same, by what a square's power tells -/
def root2 (m : Nat) (u v : Fin n) : Fin n × Bool :=
  cond (decide (v = 0)) (0, decide (u = 0)) (
    let q := u * inv v
    cond (decide (q = 0)) (q, true) (cond (!decide (q ^ (4 * m + 2) = 1)) (0, false) (
      let x := q * q ^ m
      cond (!decide (x * x = q)) (evenI (x * rootS m), true) (evenI x, true))))

omit F hn h2 in
theorem evenI_zero : evenI (0 : Fin n) = 0 := rfl

theorem Fld.root2_eq (u v : Fin n) : root2 m u v = root m u v := by
  have hodd : n % 2 = 1 := by omega
  unfold root2
  by_cases hv : v = 0
  · subst hv
    rw [show decide ((0 : Fin n) = 0) = true from decide_eq_true rfl]
    simp only [cond_true]
    unfold root
    have hi : ∀ x : Fin n, isR u 0 x = decide (u = 0) := by
      intro x; unfold isR
      refine decide_eq_decide.2 ⟨fun h => by rw [← h]; grind, fun h => by rw [h]; grind⟩
    simp only [hi]
    have : rootR m u 0 = 0 := by
      unfold rootR
      rw [F.inv_zero, show u * 0 = 0 by grind, zero_pow']
    rw [this]
    by_cases hu : u = 0
    · rw [show decide (u = 0) = true from decide_eq_true hu]; rfl
    · rw [show decide (u = 0) = false from decide_eq_false hu]; rfl
  · rw [show decide (v = 0) = false from decide_eq_false hv]
    simp only [cond_false]
    unfold root
    simp only [F.isR_iff hv]
    unfold rootR
    generalize u * inv v = q
    have h0 := rr (m := m) q
    have hqm : q * q ^ m = q ^ (m + 1) := by
      have := pow_add' q 1 m
      rw [pow_one'] at this
      rw [this, Nat.add_comm]
    rw [hqm]
    by_cases hq : q = 0
    · subst hq
      rw [show decide ((0 : Fin n) = 0) = true from decide_eq_true rfl]
      simp only [cond_true]
      rw [zero_pow', show decide ((0 : Fin n) * 0 = 0) = true from decide_eq_true (by grind)]
      rfl
    · rw [show decide (q = 0) = false from decide_eq_false hq]
      simp only [cond_false]
      have h3 := ss (m := m) q
      have h1 := ss (m := m) (2 : Fin n)
      rw [h2] at h1
      have hS : (rootS m : Fin n) = 2 ^ (2 * m + 1) := rfl
      rw [hS]
      generalize hr : q ^ (m + 1) = r at *
      generalize (2 : Fin n) ^ (2 * m + 1) = S at *
      generalize q ^ (2 * m + 1) = t at *
      by_cases h4 : q ^ (4 * m + 2) = 1
      · rw [show decide (q ^ (4 * m + 2) = 1) = true from decide_eq_true h4]
        simp only [Bool.not_true, cond_false]
        by_cases h5 : r * r = q
        · rw [show decide (r * r = q) = true from decide_eq_true h5]; rfl
        · rw [show decide (r * r = q) = false from decide_eq_false h5]
          simp only [Bool.not_false, cond_true, cond_false]
          have ht : t = 1 ∨ t = -1 := F.sq_eq (by rw [h3, h4]; grind)
          have hs : r * S * (r * S) = q := by
            rcases ht with ht | ht
            · exact absurd (by rw [h0, ht]; grind) h5
            · grind
          rw [show decide (r * S * (r * S) = q) = true from decide_eq_true hs]
          rfl
      · rw [show decide (q ^ (4 * m + 2) = 1) = false from decide_eq_false h4]
        simp only [Bool.not_false, cond_true]
        have h5 : ¬ r * r = q := by
          intro e
          apply h4
          rw [← h3]
          have : t = 1 := F.cancel hq (by grind)
          rw [this]; grind
        have h6 : ¬ r * S * (r * S) = q := by
          intro e
          apply h4
          rw [← h3]
          have : t = -1 := F.cancel hq (by grind)
          rw [this]; grind
        rw [show decide (r * r = q) = false from decide_eq_false h5, show decide (r * S * (r * S) = q) = false from decide_eq_false h6]
        rfl
end

/-- (p - 5) / 8 -/
def M8 : Nat := 7237005577332262213973186563042994240829374041602535252466099000494570602493
theorem P_M8 : P = 8 * M8 + 5 := by decide +kernel
theorem pw_two : pw P 600 2 28948022309329048855892746252171976963317496166410141009864396001978282409974 1 = 57896044618658097711785492504343953926634992332820282019728792003956564819948 := by decide +kernel
theorem half_M8 : 4 * M8 + 2 = 28948022309329048855892746252171976963317496166410141009864396001978282409974 := by decide +kernel
theorem two_half : (2 : Fin P) ^ (4 * M8 + 2) = -1 := by
  refine Fin.ext ?_
  rw [half_M8, pow_val _ _ (by decide +kernel)]
  exact pw_two
/-- the even root of u / v -/
def rootP (u v : Fin P) : Fin P × Bool := root M8 u v
theorem rootP_of {u v x : Fin P} (hv : v ≠ 0) (h : v * (x * x) = u) : rootP u v = (evenI x, true) := fldP.root_of P_M8 two_half hv h
theorem rootP_is {u v : Fin P} (h : (rootP u v).2 = true) : v * ((rootP u v).1 * (rootP u v).1) = u ∧ (rootP u v).1.val % 2 = 0 := by
  unfold rootP at *
  exact root_is P_M8 h
theorem rootP_eq (u v : Fin P) : root2 M8 u v = rootP u v := fldP.root2_eq P_M8 two_half u v

end Ec

/- Points from a y and a sign: which there are. -/
namespace Ec

section
variable {n : Nat} [NeZero n]
theorem on_ratio {d x y : Fin n} (h : On d x y) : (d * (y * y) + 1) * (x * x) = y * y - 1 := by unfold On at h; grind
theorem on_of_ratio {d x y : Fin n} (h : (d * (y * y) + 1) * (x * x) = y * y - 1) : On d x y := by unfold On; grind
theorem on_neg {d x y : Fin n} (h : On d x y) : On d (-x) y := by unfold On at *; grind
theorem Cur.dy_ne {d : Fin n} (C : Cur n d) (y : Fin n) : d * (y * y) + 1 ≠ 0 := by
  intro h
  obtain ⟨i, hi⟩ := C.root
  have hy : y ≠ 0 := by
    rintro rfl
    exact C.toFld.one_ne (by grind)
  have e := C.toFld.mul_inv hy
  refine C.nsq (i * inv y) ?_
  generalize inv y = w at *
  grind
theorem neg_odd (hn : n % 2 = 1) {x : Fin n} (hx : x ≠ 0) : (-x).val % 2 = 1 - x.val % 2 := by
  rw [val_neg x hx]
  have := x.isLt
  omega
end

/-- the even x of a y, and is there one? -/
def xy (y : Fin P) : Fin P × Bool := rootP (y * y - 1) (D * (y * y) + 1)
/-- the point of a y and a sign -/
def ofC (c : Bool) (y : Fin P) : Option (Fin P × Fin P) := cond (!(xy y).2) none (cond c (cond (decide ((xy y).1 = 0)) none (some (-(xy y).1, y))) (some ((xy y).1, y)))

theorem P_odd : P % 2 = 1 := by decide
theorem ofC_gen {n : Nat} [NeZero n] {d : Fin n} (hn : n % 2 = 1) {c b : Bool} {x y x' y' : Fin n} (hx : b = true → On d x y ∧ x.val % 2 = 0)
    (h : cond (!b) none (cond c (cond (decide (x = 0)) none (some (-x, y))) (some (x, y))) = some (x', y')) : y' = y ∧ On d x' y' ∧ (x'.val % 2 == 1) = c := by
  cases b with
  | false => cases h
  | true =>
    obtain ⟨h1, h2⟩ := hx rfl
    cases c with
    | false =>
      cases h
      exact ⟨rfl, h1, by rw [h2]; rfl⟩
    | true =>
      by_cases h0 : x = 0
      · rw [decide_eq_true h0] at h; cases h
      · rw [decide_eq_false h0] at h
        cases h
        refine ⟨rfl, on_neg h1, ?_⟩
        rw [neg_odd hn h0, h2]
        rfl
theorem ofC_on {c : Bool} {x y y' : Fin P} (h : ofC c y = some (x, y')) : y' = y ∧ On D x y' ∧ (x.val % 2 == 1) = c := by
  unfold ofC at h
  refine ofC_gen P_odd ?_ h
  intro hb
  unfold xy at hb ⊢
  obtain ⟨h1, h2⟩ := rootP_is hb
  exact ⟨on_of_ratio h1, h2⟩
theorem ofC_even {c : Bool} {x y : Fin P} (h : On D x y) (hx : x.val % 2 = 0) : ofC c y = cond c (cond (decide (x = 0)) none (some (-x, y))) (some (x, y)) := by
  have e : xy y = (x, true) := by
    unfold xy
    rw [rootP_of (curP.dy_ne y) (on_ratio h), evenI_id hx]
  unfold ofC
  rw [e]
  rfl
/-- what is read again -/
theorem ofC_same {x y : Fin P} (h : On D x y) : ofC (x.val % 2 == 1) y = some (x, y) := by
  rcases Nat.mod_two_eq_zero_or_one x.val with e | e
  · rw [ofC_even h e, e]
    rfl
  · have hx : x ≠ 0 := by rintro rfl; simp at e
    have h2 : (-x).val % 2 = 0 := by rw [neg_odd P_odd hx, e]
    rw [ofC_even (on_neg h) h2, e, decide_eq_false (neg_ne hx), neg_neg']
    rfl
theorem ofC_flip {x y : Fin P} (h : On D x y) : ofC (!(x.val % 2 == 1)) y = if x = 0 then none else some (-x, y) := by
  rcases Nat.mod_two_eq_zero_or_one x.val with e | e
  · rw [ofC_even h e, e]
    by_cases hx : x = 0
    · rw [decide_eq_true hx, if_pos hx]; rfl
    · rw [decide_eq_false hx, if_neg hx]; rfl
  · have hx : x ≠ 0 := by rintro rfl; simp at e
    have h2 : (-x).val % 2 = 0 := by rw [neg_odd P_odd hx, e]
    rw [ofC_even (on_neg h) h2, e, if_neg hx]
    rfl
end Ec

/- A ladder's numbers and a point's: what doubling and adding come to. -/
namespace Ec

section
variable {n : Nat} [NeZero n]
theorem lad_on {d x y : Fin n} (h : On d x y) : x * x * (1 + d * (y * y)) = y * y - 1 := by unfold On at h; grind
theorem lad_dbl1 {d x y z : Fin n} (h : x * x * (1 + d * (y * y)) = y * y - 1) (hz : z * (1 - d * (x * x) * (y * y)) = y * y + x * x) :
    (1 + z) * ((1 + d * (y * y)) * (1 - d * (x * x) * (y * y))) = 2 * (y * y) * (1 + d) ∧ (1 - z) * ((1 + d * (y * y)) * (1 - d * (x * x) * (y * y))) = 2 * (1 - y * y) * (1 + d * (y * y)) := by
  constructor <;> grind
theorem lad_dbl2 (l y : Fin n) : (l * (1 + y) + l * (1 - y)) * (l * (1 + y) + l * (1 - y)) = 4 * (l * l) ∧ (l * (1 + y) - l * (1 - y)) * (l * (1 + y) - l * (1 - y)) = 4 * (l * l) * (y * y) := by
  constructor <;> grind
theorem lad_dbl3 {d y z w l4 k : Fin n} (hk : d * (k + 1) = -k) (h1 : (1 + z) * w = 2 * (y * y) * (1 + d)) (h2 : (1 - z) * w = 2 * (1 - y * y) * (1 + d * (y * y))) :
    4 * l4 * (4 * l4 * (y * y)) = (8 * (l4 * l4) * w * (k + 1)) * (1 + z) ∧ (4 * l4 - 4 * l4 * (y * y)) * (4 * l4 + k * (4 * l4 - 4 * l4 * (y * y))) = (8 * (l4 * l4) * w * (k + 1)) * (1 - z) := by
  constructor
  · have : (8 * (l4 * l4) * w * (k + 1)) * (1 + z) = 8 * (l4 * l4) * (k + 1) * ((1 + z) * w) := by grind
    rw [this, h1]
    grind
  · have : (8 * (l4 * l4) * w * (k + 1)) * (1 - z) = 8 * (l4 * l4) * (k + 1) * ((1 - z) * w) := by grind
    rw [this, h2]
    grind
theorem lad_add1 {d x1 y1 x2 y2 z3 z4 : Fin n} (h1 : x1 * x1 * (1 + d * (y1 * y1)) = y1 * y1 - 1) (h2 : x2 * x2 * (1 + d * (y2 * y2)) = y2 * y2 - 1)
    (hz3 : z3 * (1 - d * (x1 * x2) * (y1 * y2)) = y1 * y2 + x1 * x2) (hz4 : z4 * (1 + d * (x1 * x2) * (y1 * y2)) = y1 * y2 - x1 * x2) :
    (1 + z3) * (1 + z4) * ((1 - d * (x1 * x2) * (y1 * y2)) * (1 + d * (x1 * x2) * (y1 * y2)) * ((1 + d * (y1 * y1)) * (1 + d * (y2 * y2)))) = (y1 + y2) * (y1 + y2) * ((1 + d) * (1 + d * ((y1 * y2) * (y1 * y2)))) ∧
    (1 - z3) * (1 - z4) * ((1 - d * (x1 * x2) * (y1 * y2)) * (1 + d * (x1 * x2) * (y1 * y2)) * ((1 + d * (y1 * y1)) * (1 + d * (y2 * y2)))) = (y1 - y2) * (y1 - y2) * ((1 + d) * (1 + d * ((y1 * y2) * (y1 * y2)))) := by
  have hX : (x1 * x2) * (x1 * x2) * ((1 + d * (y1 * y1)) * (1 + d * (y2 * y2))) = (y1 * y1 - 1) * (y2 * y2 - 1) := by
    rw [← h1, ← h2]; grind
  generalize hXX : x1 * x2 = X at *
  constructor
  · have e : (1 + z3) * (1 + z4) * ((1 - d * X * (y1 * y2)) * (1 + d * X * (y1 * y2)) * ((1 + d * (y1 * y1)) * (1 + d * (y2 * y2)))) =
        ((1 - d * X * (y1 * y2)) + z3 * (1 - d * X * (y1 * y2))) * ((1 + d * X * (y1 * y2)) + z4 * (1 + d * X * (y1 * y2))) * ((1 + d * (y1 * y1)) * (1 + d * (y2 * y2))) := by grind
    rw [e, hz3, hz4]
    clear hz3 hz4 e h1 h2 hXX
    have e2 : (1 - d * X * (y1 * y2) + (y1 * y2 + X)) * (1 + d * X * (y1 * y2) + (y1 * y2 - X)) * ((1 + d * (y1 * y1)) * (1 + d * (y2 * y2))) =
        (1 + y1 * y2) * (1 + y1 * y2) * ((1 + d * (y1 * y1)) * (1 + d * (y2 * y2))) - (1 - d * (y1 * y2)) * (1 - d * (y1 * y2)) * (X * X * ((1 + d * (y1 * y1)) * (1 + d * (y2 * y2)))) := by grind
    rw [e2, hX]
    grind
  · have e : (1 - z3) * (1 - z4) * ((1 - d * X * (y1 * y2)) * (1 + d * X * (y1 * y2)) * ((1 + d * (y1 * y1)) * (1 + d * (y2 * y2)))) =
        ((1 - d * X * (y1 * y2)) - z3 * (1 - d * X * (y1 * y2))) * ((1 + d * X * (y1 * y2)) - z4 * (1 + d * X * (y1 * y2))) * ((1 + d * (y1 * y1)) * (1 + d * (y2 * y2))) := by grind
    rw [e, hz3, hz4]
    clear hz3 hz4 e h1 h2 hXX
    have e2 : (1 - d * X * (y1 * y2) - (y1 * y2 + X)) * (1 + d * X * (y1 * y2) - (y1 * y2 - X)) * ((1 + d * (y1 * y1)) * (1 + d * (y2 * y2))) =
        (1 - y1 * y2) * (1 - y1 * y2) * ((1 + d * (y1 * y1)) * (1 + d * (y2 * y2))) - (1 + d * (y1 * y2)) * (1 + d * (y1 * y2)) * (X * X * ((1 + d * (y1 * y1)) * (1 + d * (y2 * y2)))) := by grind
    rw [e2, hX]
    grind
theorem lad_add2 (l m y1 y2 : Fin n) :
    ((m * (1 + y2) + m * (1 - y2)) * (l * (1 + y1) - l * (1 - y1)) + (m * (1 + y2) - m * (1 - y2)) * (l * (1 + y1) + l * (1 - y1))) = 4 * (l * m) * (y1 + y2) ∧
    ((m * (1 + y2) + m * (1 - y2)) * (l * (1 + y1) - l * (1 - y1)) - (m * (1 + y2) - m * (1 - y2)) * (l * (1 + y1) + l * (1 - y1))) = 4 * (l * m) * (y1 - y2) := by
  constructor <;> grind
end

/-- two numbers stand for a point's y: they are as 1 + y and 1 - y -/
def RepU (a b y : Fin P) : Prop := ∃ l : Fin P, l ≠ 0 ∧ a = l * (1 + y) ∧ b = l * (1 - y)

theorem k_ne : (121665 : Fin P) + 1 ≠ 0 := by decide +kernel
theorem k_is : D * (121665 + 1) = -121665 := by decide +kernel
theorem eight_ne : (8 : Fin P) ≠ 0 := by decide +kernel
theorem sixteen_ne : (16 : Fin P) ≠ 0 := by decide +kernel
theorem d1_ne : (1 : Fin P) + D ≠ 0 := by decide +kernel

theorem dy_ne' (y : Fin P) : 1 + D * (y * y) ≠ 0 := by
  have := curP.dy_ne y
  intro h
  apply this
  rw [← h]
  grind
theorem padd_y' (a b : Pt P D) : (padd a b).y * (1 - D * (a.x * b.x) * (a.y * b.y)) = a.y * b.y + a.x * b.x := by
  have := padd_y a b
  rw [← this]
  have e : D * (a.x * b.x) * (a.y * b.y) = D * a.x * b.x * a.y * b.y := by grind
  rw [e]
theorem den2' (a b : Pt P D) : 1 - D * (a.x * b.x) * (a.y * b.y) ≠ 0 := by
  have := curP.den2 a.on b.on
  have e : D * (a.x * b.x) * (a.y * b.y) = D * a.x * b.x * a.y * b.y := by grind
  rw [e]; exact this
theorem den1' (a b : Pt P D) : 1 + D * (a.x * b.x) * (a.y * b.y) ≠ 0 := by
  have := curP.den1 a.on b.on
  have e : D * (a.x * b.x) * (a.y * b.y) = D * a.x * b.x * a.y * b.y := by grind
  rw [e]; exact this

/-- doubled -/
theorem RepU.dbl {a b : Fin P} {p : Pt P D} (h : RepU a b p.y) :
    RepU ((a + b) * (a + b) * ((a - b) * (a - b))) (((a + b) * (a + b) - (a - b) * (a - b)) * ((a + b) * (a + b) + 121665 * ((a + b) * (a + b) - (a - b) * (a - b)))) (padd p p).y := by
  obtain ⟨l, hl, rfl, rfl⟩ := h
  obtain ⟨e1, e2⟩ := lad_dbl2 l p.y
  rw [e1, e2]
  have hz := padd_y' p p
  obtain ⟨f1, f2⟩ := lad_dbl1 (lad_on p.on) hz
  obtain ⟨g1, g2⟩ := lad_dbl3 (l4 := l * l) k_is f1 f2
  refine ⟨_, ?_, g1, g2⟩
  have hw := fldP.mul_ne (dy_ne' p.y) (den2' p p)
  have hll := fldP.mul_ne hl hl
  exact fldP.mul_ne (fldP.mul_ne (fldP.mul_ne eight_ne (fldP.mul_ne hll hll)) hw) k_ne

theorem by5 : BY * 5 = 4 := BY_is
theorem by_1 : 9 * (1 - BY) = 1 + BY := by decide +kernel
theorem by_2 : (1 : Fin P) + BY ≠ 0 := by decide +kernel
theorem lad_last {n : Nat} [NeZero n] {u w k c i s t : Fin n} (hi : k * i = 1) (h : (s * t) * w = u * k) : c * u = c * t * w * i * s := by grind
theorem lad_last2 {n : Nat} [NeZero n] {u w k c i s t t' g : Fin n} (hi : k * i = 1) (h : (s * t') * w = u * k) (ht : g * t' = t) : g * (c * u) = c * t * w * i * s := by grind

/-- added, the base apart -/
theorem RepU.add {a b c d : Fin P} {p q : Pt P D} (h1 : RepU a b p.y) (h2 : RepU c d q.y) (hb : (padd p (Cur.neg q)).y = BY) :
    RepU (((c + d) * (a - b) + (c - d) * (a + b)) * ((c + d) * (a - b) + (c - d) * (a + b))) (9 * (((c + d) * (a - b) - (c - d) * (a + b)) * ((c + d) * (a - b) - (c - d) * (a + b)))) (padd p q).y := by
  obtain ⟨l, hl, rfl, rfl⟩ := h1
  obtain ⟨m, hm, rfl, rfl⟩ := h2
  obtain ⟨e1, e2⟩ := lad_add2 l m p.y q.y
  rw [e1, e2]
  have hz3 := padd_y' p q
  have hz4 : BY * (1 + D * (p.x * q.x) * (p.y * q.y)) = p.y * q.y - p.x * q.x := by
    have := padd_y' p (Cur.neg q)
    rw [hb] at this
    have n1 : (Cur.neg q).x = -q.x := rfl
    have n2 : (Cur.neg q).y = q.y := rfl
    rw [n1, n2] at this
    grind
  obtain ⟨f1, f2⟩ := lad_add1 (lad_on p.on) (lad_on q.on) hz3 hz4
  have hY := dy_ne' (p.y * q.y)
  have hk := fldP.mul_ne d1_ne hY
  have hi := fldP.mul_inv hk
  have hw : (1 - D * (p.x * q.x) * (p.y * q.y)) * (1 + D * (p.x * q.x) * (p.y * q.y)) * ((1 + D * (p.y * p.y)) * (1 + D * (q.y * q.y))) ≠ 0 :=
    fldP.mul_ne (fldP.mul_ne (den2' p q) (den1' p q)) (fldP.mul_ne (dy_ne' p.y) (dy_ne' q.y))
  generalize (1 - D * (p.x * q.x) * (p.y * q.y)) * (1 + D * (p.x * q.x) * (p.y * q.y)) * ((1 + D * (p.y * p.y)) * (1 + D * (q.y * q.y))) = w at *
  have hki : inv ((1 + D) * (1 + D * ((p.y * q.y) * (p.y * q.y)))) ≠ 0 := by
    intro hh
    rw [hh] at hi
    exact fldP.one_ne (by rw [← hi]; grind)
  generalize (1 + D) * (1 + D * ((p.y * q.y) * (p.y * q.y))) = k at *
  generalize inv k = i at *
  have s1 : 4 * (l * m) * (p.y + q.y) * (4 * (l * m) * (p.y + q.y)) = (16 * ((l * m) * (l * m))) * ((p.y + q.y) * (p.y + q.y)) := by grind
  have s2 : 4 * (l * m) * (p.y - q.y) * (4 * (l * m) * (p.y - q.y)) = (16 * ((l * m) * (l * m))) * ((p.y - q.y) * (p.y - q.y)) := by grind
  rw [s1, s2]
  have hc : (16 : Fin P) * ((l * m) * (l * m)) ≠ 0 := by
    have hlm := fldP.mul_ne hl hm
    exact fldP.mul_ne sixteen_ne (fldP.mul_ne hlm hlm)
  generalize (16 : Fin P) * ((l * m) * (l * m)) = c at *
  refine ⟨c * (1 + BY) * w * i, fldP.mul_ne (fldP.mul_ne (fldP.mul_ne hc by_2) hw) hki, ?_, ?_⟩
  · exact lad_last hi f1
  · exact lad_last2 hi f2 by_1

theorem repU_one : RepU 1 0 1 := ⟨inv 2, (fun h => by have := fldP.mul_inv fldP.two_ne; rw [h] at this; exact fldP.one_ne (by rw [← this]; grind)), by have := fldP.mul_inv fldP.two_ne; grind, by grind⟩
theorem repU_base : RepU 9 1 BY := ⟨5, by decide +kernel, by decide +kernel, by decide +kernel⟩
/-- the one number -/
theorem RepU.ratio {a b y : Fin P} (h : RepU a b y) : a * inv b = (1 + y) * inv (1 - y) := by
  obtain ⟨l, hl, rfl, rfl⟩ := h
  by_cases hy : 1 - y = 0
  · rw [hy]
    have : l * 0 = (0 : Fin P) := by grind
    rw [this, fldP.inv_zero]
    grind
  · rw [fldP.inv_inv_mul hl hy]
    have := fldP.mul_inv hl
    grind
end Ec
