/-
Numbers: the field's number and the group's number are primes, with a generator each.
-/
import Derived.Test.YtahkpabndfaoiaaM1
namespace Ec

/-- no number d, d + 2, .. (k of them) is a divisor; stops where d * d is beyond n -/
def noDiv (n : Nat) : Nat → Nat → Bool
  | 0, _ => false
  | k + 1, d => Nat.blt n (d * d) || (n % d != 0 && noDiv n k (d + 2))

theorem noDiv_spec (n : Nat) : ∀ k d, 1 < d → noDiv n k d = true → ∀ e, d ≤ e → e % 2 = d % 2 → e ∣ n → 0 < n → n < e * e := by
  intro k
  induction k with
  | zero => intro d _ h; simp [noDiv] at h
  | succ k ih =>
    intro d hd h e hde hp hen hn
    unfold noDiv at h
    rw [Bool.or_eq_true, Bool.and_eq_true] at h
    rcases h with h | ⟨h1, h2⟩
    · have h3 : n < d * d := by have := Nat.le_of_ble_eq_true h; omega
      exact Nat.lt_of_lt_of_le h3 (Nat.mul_le_mul hde hde)
    · rcases Nat.eq_or_lt_of_le hde with h3 | h3
      · subst h3
        have := Nat.mod_eq_zero_of_dvd hen
        simp [this] at h1
      · exact ih (d + 2) (by omega) h2 e (by omega) (by omega) hen hn

def smallB (n : Nat) : Bool := n == 2 || (Nat.blt 1 n && n % 2 != 0 && noDiv n 710 3)

theorem small_prime (n : Nat) (h : smallB n = true) : Prime n := by
  unfold smallB at h
  rw [Bool.or_eq_true, Bool.and_eq_true, Bool.and_eq_true] at h
  rcases h with h | ⟨⟨h1, h2⟩, h3⟩
  · have : n = 2 := by simpa using h
    subst this
    refine ⟨by decide, fun d hd => ?_⟩
    have := Nat.le_of_dvd (by decide) hd
    have h0 : 0 < d := Nat.pos_of_dvd_of_pos hd (by decide)
    omega
  · have h1 : 1 < n := by have := Nat.le_of_ble_eq_true h1; omega
    have h2 : n % 2 = 1 := by
      have : n % 2 ≠ 0 := by simpa using h2
      omega
    refine ⟨h1, fun d hd => ?_⟩
    have hd0 : 0 < d := Nat.pos_of_dvd_of_pos hd (by omega)
    have odd : ∀ e, e ∣ n → e % 2 = 1 := by
      intro e he
      have h4 : e % 2 = 0 ∨ e % 2 = 1 := by omega
      rcases h4 with h4 | h4
      · have : 2 ∣ n := Nat.dvd_trans (Nat.dvd_of_mod_eq_zero h4) he
        have := Nat.mod_eq_zero_of_dvd this
        omega
      · exact h4
    obtain ⟨c, hc⟩ := hd
    have hcd : c ∣ n := ⟨d, by rw [hc, Nat.mul_comm]⟩
    have hc0 : 0 < c := Nat.pos_of_dvd_of_pos hcd (by omega)
    have big : ∀ e, e ∣ n → e ≠ 1 → n < e * e := by
      intro e he hne
      have h5 := odd e he
      have h0 : 0 < e := Nat.pos_of_dvd_of_pos he (by omega)
      exact noDiv_spec n 710 3 (by decide) h3 e (by omega) (by omega) he (by omega)
    by_cases hd1 : d = 1
    · exact .inl hd1
    · by_cases hc1 : c = 1
      · right; rw [hc, hc1, Nat.mul_one]
      · exfalso
        have b1 := big d ⟨c, hc⟩ hd1
        have b2 := big c hcd hc1
        rcases Nat.le_total d c with h6 | h6
        · have : d * d ≤ d * c := Nat.mul_le_mul_left _ h6
          omega
        · have : c * c ≤ d * c := Nat.mul_le_mul_right _ h6
          omega

theorem pr2 : Prime 2 := small_prime _ (by decide +kernel)
theorem pr3 : Prime 3 := small_prime _ (by decide +kernel)
theorem pr5 : Prime 5 := small_prime _ (by decide +kernel)
theorem pr7 : Prime 7 := small_prime _ (by decide +kernel)
theorem pr11 : Prime 11 := small_prime _ (by decide +kernel)
theorem pr13 : Prime 13 := small_prime _ (by decide +kernel)
theorem pr19 : Prime 19 := small_prime _ (by decide +kernel)
theorem pr23 : Prime 23 := small_prime _ (by decide +kernel)
theorem pr31 : Prime 31 := small_prime _ (by decide +kernel)
theorem pr41 : Prime 41 := small_prime _ (by decide +kernel)
theorem pr43 : Prime 43 := small_prime _ (by decide +kernel)
theorem pr47 : Prime 47 := small_prime _ (by decide +kernel)
theorem pr73 : Prime 73 := small_prime _ (by decide +kernel)
theorem pr103 : Prime 103 := small_prime _ (by decide +kernel)
theorem pr107 : Prime 107 := small_prime _ (by decide +kernel)
theorem pr127 : Prime 127 := small_prime _ (by decide +kernel)
theorem pr223 : Prime 223 := small_prime _ (by decide +kernel)
theorem pr269 : Prime 269 := small_prime _ (by decide +kernel)
theorem pr307 : Prime 307 := small_prime _ (by decide +kernel)
theorem pr353 : Prime 353 := small_prime _ (by decide +kernel)
theorem pr991 : Prime 991 := small_prime _ (by decide +kernel)
theorem pr1361 : Prime 1361 := small_prime _ (by decide +kernel)
theorem pr2437 : Prime 2437 := small_prime _ (by decide +kernel)
theorem pr2851 : Prime 2851 := small_prime _ (by decide +kernel)
theorem pr4153 : Prime 4153 := small_prime _ (by decide +kernel)
theorem pr5879 : Prime 5879 := small_prime _ (by decide +kernel)
theorem pr30703 : Prime 30703 := small_prime _ (by decide +kernel)
theorem pr57467 : Prime 57467 := small_prime _ (by decide +kernel)
theorem pr65147 : Prime 65147 := small_prime _ (by decide +kernel)
theorem pr75707 : Prime 75707 := small_prime _ (by decide +kernel)
theorem pr82163 : Prime 82163 := small_prime _ (by decide +kernel)
theorem pr132049 : Prime 132049 := small_prime _ (by decide +kernel)
theorem pr132667 : Prime 132667 := small_prime _ (by decide +kernel)
theorem pr137849 : Prime 137849 := small_prime _ (by decide +kernel)
theorem pr409477 : Prime 409477 := small_prime _ (by decide +kernel)
theorem pr430751 : Prime 430751 := small_prime _ (by decide +kernel)
theorem pr531581 : Prime 531581 := small_prime _ (by decide +kernel)
theorem pr569003 : Prime 569003 := small_prime _ (by decide +kernel)
theorem pr1224481 : Prime 1224481 := small_prime _ (by decide +kernel)
theorem pr1923133 : Prime 1923133 := small_prime _ (by decide +kernel)
theorem gen2773320623 : Gen 2773320623 5 := gen_of [2, 2437, 569003] (by decide +kernel) (by
  intro q hq
  simp only [List.mem_cons, List.not_mem_nil, or_false] at hq
  rcases hq with rfl | rfl | rfl
  · exact pr2
  · exact pr2437
  · exact pr569003
  ) (by decide +kernel) (by decide +kernel) (by decide +kernel) (by decide +kernel)
theorem pr2773320623 : Prime 2773320623 := gen2773320623.prime
theorem gen72106336199 : Gen 72106336199 7 := gen_of [2, 13, 2773320623] (by decide +kernel) (by
  intro q hq
  simp only [List.mem_cons, List.not_mem_nil, or_false] at hq
  rcases hq with rfl | rfl | rfl
  · exact pr2
  · exact pr13
  · exact pr2773320623
  ) (by decide +kernel) (by decide +kernel) (by decide +kernel) (by decide +kernel)
theorem pr72106336199 : Prime 72106336199 := gen72106336199.prime
theorem gen8574133 : Gen 8574133 2 := gen_of [2, 2, 3, 7, 103, 991] (by decide +kernel) (by
  intro q hq
  simp only [List.mem_cons, List.not_mem_nil, or_false] at hq
  rcases hq with rfl | rfl | rfl | rfl | rfl | rfl
  · exact pr2
  · exact pr2
  · exact pr3
  · exact pr7
  · exact pr103
  · exact pr991
  ) (by decide +kernel) (by decide +kernel) (by decide +kernel) (by decide +kernel)
theorem pr8574133 : Prime 8574133 := gen8574133.prime
theorem gen1919519569386763 : Gen 1919519569386763 2 := gen_of [2, 3, 7, 19, 47, 47, 127, 8574133] (by decide +kernel) (by
  intro q hq
  simp only [List.mem_cons, List.not_mem_nil, or_false] at hq
  rcases hq with rfl | rfl | rfl | rfl | rfl | rfl | rfl | rfl
  · exact pr2
  · exact pr3
  · exact pr7
  · exact pr19
  · exact pr47
  · exact pr47
  · exact pr127
  · exact pr8574133
  ) (by decide +kernel) (by decide +kernel) (by decide +kernel) (by decide +kernel)
theorem pr1919519569386763 : Prime 1919519569386763 := gen1919519569386763.prime
theorem gen75445702479781427272750846543864801 : Gen 75445702479781427272750846543864801 7 := gen_of [2, 2, 2, 2, 2, 3, 3, 5, 5, 75707, 72106336199, 1919519569386763] (by decide +kernel) (by
  intro q hq
  simp only [List.mem_cons, List.not_mem_nil, or_false] at hq
  rcases hq with rfl | rfl | rfl | rfl | rfl | rfl | rfl | rfl | rfl | rfl | rfl | rfl
  · exact pr2
  · exact pr2
  · exact pr2
  · exact pr2
  · exact pr2
  · exact pr3
  · exact pr3
  · exact pr5
  · exact pr5
  · exact pr75707
  · exact pr72106336199
  · exact pr1919519569386763
  ) (by decide +kernel) (by decide +kernel) (by decide +kernel) (by decide +kernel)
theorem pr75445702479781427272750846543864801 : Prime 75445702479781427272750846543864801 := gen75445702479781427272750846543864801.prime
theorem gen31757755568855353 : Gen 31757755568855353 10 := gen_of [2, 2, 2, 3, 31, 107, 223, 4153, 430751] (by decide +kernel) (by
  intro q hq
  simp only [List.mem_cons, List.not_mem_nil, or_false] at hq
  rcases hq with rfl | rfl | rfl | rfl | rfl | rfl | rfl | rfl | rfl
  · exact pr2
  · exact pr2
  · exact pr2
  · exact pr3
  · exact pr31
  · exact pr107
  · exact pr223
  · exact pr4153
  · exact pr430751
  ) (by decide +kernel) (by decide +kernel) (by decide +kernel) (by decide +kernel)
theorem pr31757755568855353 : Prime 31757755568855353 := gen31757755568855353.prime
theorem gen74058212732561358302231226437062788676166966415465897661863160754340907 : Gen 74058212732561358302231226437062788676166966415465897661863160754340907 2 := gen_of [2, 3, 353, 57467, 132049, 1923133, 31757755568855353, 75445702479781427272750846543864801] (by decide +kernel) (by
  intro q hq
  simp only [List.mem_cons, List.not_mem_nil, or_false] at hq
  rcases hq with rfl | rfl | rfl | rfl | rfl | rfl | rfl | rfl
  · exact pr2
  · exact pr3
  · exact pr353
  · exact pr57467
  · exact pr132049
  · exact pr1923133
  · exact pr31757755568855353
  · exact pr75445702479781427272750846543864801
  ) (by decide +kernel) (by decide +kernel) (by decide +kernel) (by decide +kernel)
theorem pr74058212732561358302231226437062788676166966415465897661863160754340907 : Prime 74058212732561358302231226437062788676166966415465897661863160754340907 := gen74058212732561358302231226437062788676166966415465897661863160754340907.prime
theorem genP : Gen 57896044618658097711785492504343953926634992332820282019728792003956564819949 2 := gen_of [2, 2, 3, 65147, 74058212732561358302231226437062788676166966415465897661863160754340907] (by decide +kernel) (by
  intro q hq
  simp only [List.mem_cons, List.not_mem_nil, or_false] at hq
  rcases hq with rfl | rfl | rfl | rfl | rfl
  · exact pr2
  · exact pr2
  · exact pr3
  · exact pr65147
  · exact pr74058212732561358302231226437062788676166966415465897661863160754340907
  ) (by decide +kernel) (by decide +kernel) (by decide +kernel) (by decide +kernel)
theorem gen1257559732178653 : Gen 1257559732178653 2 := gen_of [2, 2, 3, 7, 23, 531581, 1224481] (by decide +kernel) (by
  intro q hq
  simp only [List.mem_cons, List.not_mem_nil, or_false] at hq
  rcases hq with rfl | rfl | rfl | rfl | rfl | rfl | rfl
  · exact pr2
  · exact pr2
  · exact pr3
  · exact pr7
  · exact pr23
  · exact pr531581
  · exact pr1224481
  ) (by decide +kernel) (by decide +kernel) (by decide +kernel) (by decide +kernel)
theorem pr1257559732178653 : Prime 1257559732178653 := gen1257559732178653.prime
theorem gen4434155615661930479 : Gen 4434155615661930479 17 := gen_of [2, 41, 43, 1257559732178653] (by decide +kernel) (by
  intro q hq
  simp only [List.mem_cons, List.not_mem_nil, or_false] at hq
  rcases hq with rfl | rfl | rfl | rfl
  · exact pr2
  · exact pr41
  · exact pr43
  · exact pr1257559732178653
  ) (by decide +kernel) (by decide +kernel) (by decide +kernel) (by decide +kernel)
theorem pr4434155615661930479 : Prime 4434155615661930479 := gen4434155615661930479.prime
theorem gen172054593956031949258510691 : Gen 172054593956031949258510691 2 := gen_of [2, 5, 1361, 2851, 4434155615661930479] (by decide +kernel) (by
  intro q hq
  simp only [List.mem_cons, List.not_mem_nil, or_false] at hq
  rcases hq with rfl | rfl | rfl | rfl | rfl
  · exact pr2
  · exact pr5
  · exact pr1361
  · exact pr2851
  · exact pr4434155615661930479
  ) (by decide +kernel) (by decide +kernel) (by decide +kernel) (by decide +kernel)
theorem pr172054593956031949258510691 : Prime 172054593956031949258510691 := gen172054593956031949258510691.prime
theorem gen292386187 : Gen 292386187 2 := gen_of [2, 3, 3, 3, 3, 307, 5879] (by decide +kernel) (by
  intro q hq
  simp only [List.mem_cons, List.not_mem_nil, or_false] at hq
  rcases hq with rfl | rfl | rfl | rfl | rfl | rfl | rfl
  · exact pr2
  · exact pr3
  · exact pr3
  · exact pr3
  · exact pr3
  · exact pr307
  · exact pr5879
  ) (by decide +kernel) (by decide +kernel) (by decide +kernel) (by decide +kernel)
theorem pr292386187 : Prime 292386187 := gen292386187.prime
theorem gen213441916511 : Gen 213441916511 13 := gen_of [2, 5, 73, 292386187] (by decide +kernel) (by
  intro q hq
  simp only [List.mem_cons, List.not_mem_nil, or_false] at hq
  rcases hq with rfl | rfl | rfl | rfl
  · exact pr2
  · exact pr5
  · exact pr73
  · exact pr292386187
  ) (by decide +kernel) (by decide +kernel) (by decide +kernel) (by decide +kernel)
theorem pr213441916511 : Prime 213441916511 := gen213441916511.prime
theorem gen19757330305831588566944191468367130476339 : Gen 19757330305831588566944191468367130476339 2 := gen_of [2, 269, 213441916511, 172054593956031949258510691] (by decide +kernel) (by
  intro q hq
  simp only [List.mem_cons, List.not_mem_nil, or_false] at hq
  rcases hq with rfl | rfl | rfl | rfl
  · exact pr2
  · exact pr269
  · exact pr213441916511
  · exact pr172054593956031949258510691
  ) (by decide +kernel) (by decide +kernel) (by decide +kernel) (by decide +kernel)
theorem pr19757330305831588566944191468367130476339 : Prime 19757330305831588566944191468367130476339 := gen19757330305831588566944191468367130476339.prime
theorem gen276602624281642239937218680557139826668747 : Gen 276602624281642239937218680557139826668747 2 := gen_of [2, 7, 19757330305831588566944191468367130476339] (by decide +kernel) (by
  intro q hq
  simp only [List.mem_cons, List.not_mem_nil, or_false] at hq
  rcases hq with rfl | rfl | rfl
  · exact pr2
  · exact pr7
  · exact pr19757330305831588566944191468367130476339
  ) (by decide +kernel) (by decide +kernel) (by decide +kernel) (by decide +kernel)
theorem pr276602624281642239937218680557139826668747 : Prime 276602624281642239937218680557139826668747 := gen276602624281642239937218680557139826668747.prime
theorem gen14741173 : Gen 14741173 2 := gen_of [2, 2, 3, 3, 409477] (by decide +kernel) (by
  intro q hq
  simp only [List.mem_cons, List.not_mem_nil, or_false] at hq
  rcases hq with rfl | rfl | rfl | rfl | rfl
  · exact pr2
  · exact pr2
  · exact pr3
  · exact pr3
  · exact pr409477
  ) (by decide +kernel) (by decide +kernel) (by decide +kernel) (by decide +kernel)
theorem pr14741173 : Prime 14741173 := gen14741173.prime
theorem gen58964693 : Gen 58964693 2 := gen_of [2, 2, 14741173] (by decide +kernel) (by
  intro q hq
  simp only [List.mem_cons, List.not_mem_nil, or_false] at hq
  rcases hq with rfl | rfl | rfl
  · exact pr2
  · exact pr2
  · exact pr14741173
  ) (by decide +kernel) (by decide +kernel) (by decide +kernel) (by decide +kernel)
theorem pr58964693 : Prime 58964693 := gen58964693.prime
theorem gen3044861653679985063343 : Gen 3044861653679985063343 5 := gen_of [2, 3, 11, 30703, 82163, 132667, 137849] (by decide +kernel) (by
  intro q hq
  simp only [List.mem_cons, List.not_mem_nil, or_false] at hq
  rcases hq with rfl | rfl | rfl | rfl | rfl | rfl | rfl
  · exact pr2
  · exact pr3
  · exact pr11
  · exact pr30703
  · exact pr82163
  · exact pr132667
  · exact pr137849
  ) (by decide +kernel) (by decide +kernel) (by decide +kernel) (by decide +kernel)
theorem pr3044861653679985063343 : Prime 3044861653679985063343 := gen3044861653679985063343.prime
theorem gen198211423230930754013084525763697 : Gen 198211423230930754013084525763697 5 := gen_of [2, 2, 2, 2, 3, 23, 58964693, 3044861653679985063343] (by decide +kernel) (by
  intro q hq
  simp only [List.mem_cons, List.not_mem_nil, or_false] at hq
  rcases hq with rfl | rfl | rfl | rfl | rfl | rfl | rfl | rfl
  · exact pr2
  · exact pr2
  · exact pr2
  · exact pr2
  · exact pr3
  · exact pr23
  · exact pr58964693
  · exact pr3044861653679985063343
  ) (by decide +kernel) (by decide +kernel) (by decide +kernel) (by decide +kernel)
theorem pr198211423230930754013084525763697 : Prime 198211423230930754013084525763697 := gen198211423230930754013084525763697.prime
theorem genL : Gen 7237005577332262213973186563042994240857116359379907606001950938285454250989 2 := gen_of [2, 2, 3, 11, 198211423230930754013084525763697, 276602624281642239937218680557139826668747] (by decide +kernel) (by
  intro q hq
  simp only [List.mem_cons, List.not_mem_nil, or_false] at hq
  rcases hq with rfl | rfl | rfl | rfl | rfl | rfl
  · exact pr2
  · exact pr2
  · exact pr3
  · exact pr11
  · exact pr198211423230930754013084525763697
  · exact pr276602624281642239937218680557139826668747
  ) (by decide +kernel) (by decide +kernel) (by decide +kernel) (by decide +kernel)

end Ec
