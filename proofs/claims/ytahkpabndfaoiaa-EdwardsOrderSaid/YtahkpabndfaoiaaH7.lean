/-
What is known of the reference's numbers modulo the group's order: bytes reduced, products and sums.
-/
import Derived.Test.YtahkpabndfaoiaaH5
import Derived.Test.YtahkpabndfaoiaaH6
namespace Go.Proofs.Ytahkpabndfaoiaa
open Eng Go Go.RowKit Go.Proofs

def sops : SOps where
  hi := highF
  bt := bitsN
  red l := numI 8 l % Ec.L
theorem sops_hi (l : List Int) : sops.hi l = highF l := rfl
theorem sops_bt (l : List Int) : sops.bt l = bitsN l := rfl
theorem sops_red (l : List Int) : sops.red l = numI 8 l % Ec.L := rfl
theorem S1_ok : TableOK Try.prog (lookS (S1 sops) (T10 rops)) := tableS_cons high_ok (tableS_cons bits_ok (tableS_nil T10_ok))

theorem wid_arr (k : IntKind) (l : List Int) : widS [.arr k l] = l.length := rfl
theorem red_ok : SlOK Try.prog 42 (spA .u8 .read (fun l => .val (.pv (keyP (sops.red l)))) redPre) :=
  spA_read S1_ok mixed (fn := rdF) Try.func42 (by decide +kernel) (by kernel_rfl) (by kernel_rfl) fun l e hp => by
    obtain ⟨⟨hl, h0, h1⟩, _⟩ := hp
    obtain ⟨b1, b2⟩ := high_bits hl
    have hx := red_x sops rops l e
    rw [sops_hi, sops_bt, b1] at hx
    refine .out 0 ⟨[], [], []⟩ 300 hx ?_ ⟨keyV (numI 8 l % Ec.L), ?_, rfl⟩
    · refine AllP_app ⟨⟨h0, h1⟩, trivial⟩ (AllP_app ⟨?_, trivial⟩ (AllP_app ⟨⟨b2, ?_⟩, trivial⟩ ⟨?_, trivial⟩))
      · rw [wid_arr]; exact Nat.beq_refl _
      · have : (highF l).length = 8 * l.length := hiUp_len l l.length
        omega
      · exact Nat.beq_refl _
    · rw [sops_red]; rfl
theorem S2_ok : TableOK Try.prog (lookS (S2 sops) (T10 rops)) := tableS_cons red_ok S1_ok

theorem maO_ok {j : Nat} {d : List Int} (hj : j < 33) (hd : d.length = 33) : AllP (maO j d) := by
  have h1 : idxOk (j : Int) 33 = true := by simp [idxOk]; omega
  have h2 : Nat.blt j d.length = true := by rw [hd, Nat.blt_eq]; exact hj
  exact ⟨h1, h2, h1, h2, trivial⟩
theorem lim_ok {n : Nat} (h : 1 ≤ n) (h' : n ≤ 1000) : (Nat.ble 1 n && Nat.ble n limN) = true := by
  have h1 : Nat.ble 1 n = true := Nat.ble_eq_true_of_le h
  have h2 : Nat.ble n limN = true := by
    apply Nat.ble_eq_true_of_le
    unfold limN
    omega
  rw [h1, h2]
  rfl
theorem maA_s1 (d : List Int) (i : Nat) : (maA d (i + 1)).1 = (maA d i).1 ++ [IntKind.wrap .u8 (maN d (maA d i).2 i), IntKind.wrap .u8 ((maN d (maA d i).2 i).fdiv (2 ^ 8))] := rfl
theorem maA_s2 (d : List Int) (i : Nat) : (maA d (i + 1)).2 = (maN d (maA d i).2 i).fdiv (2 ^ 16) := rfl
theorem maA_one1 (d : List Int) : (maA d 1).1 = [IntKind.wrap .u8 (maN d 0 0), IntKind.wrap .u8 ((maN d 0 0).fdiv (2 ^ 8))] := rfl
theorem maA_one2 (d : List Int) : (maA d 1).2 = (maN d 0 0).fdiv (2 ^ 16) := rfl
theorem maO1_ok {j : Nat} {d : List Int} (hj : j < 33) (hd : d.length = 33) : AllP (maO1 d j) := by
  have h1 : idxOk (j : Int) 33 = true := by simp [idxOk]; omega
  have h2 : Nat.blt j d.length = true := by rw [hd, Nat.blt_eq]; exact hj
  exact ⟨h1, h2, trivial⟩

section
variable (a b c : Nat)
def maVal : Nat := ((a % 2 ^ 256) * (b % 2 ^ 256) + c % 2 ^ 256) % Ec.L
theorem maVal_eq : maVal a b c = ((a % 2 ^ 256) * (b % 2 ^ 256) + c % 2 ^ 256) % Ec.L := by unfold maVal; rfl
def maRes : SRes := .val (.pv (keyP (maVal a b c)))
theorem bytes_goes : ∀ n i, 33 - i = n → 1 ≤ i → i ≤ 33 → Goes Try.prog (maT sops rops) maF (OutIs (maRes a b c)) (.code (hdB maF).1 :: .lp (hdB maF).1 :: (hdB maF).2) (maE (maD a b c 16) (maA (maD a b c 16) i).1 (maA (maD a b c 16) i).2 i) := by
  intro n
  have hB := (maD_spec a b c 16 (by decide)).1
  induction n with
  | zero =>
    intro i hn h1 h2
    have : i = 33 := by omega
    subst this
    obtain ⟨l1, l2, l3⟩ := maA_last a b c
    have hx := ma_last sops rops (maD a b c 16) (maA (maD a b c 16) 33).1 (maA (maD a b c 16) 33).2
    rw [sops_red, l3, ← maVal_eq] at hx
    refine .out 1 maTd4 300 hx (AllP_app ⟨⟨l2, by omega, by omega⟩, trivial⟩ ⟨?_, trivial⟩) ⟨keyV (maVal a b c), rfl, rfl⟩
    rw [wid_arr, l1]
    rfl
  | succ n ih =>
    intro i hn h1 h2
    obtain ⟨l1, _⟩ := maA_spec hB (by decide) i h2
    have hx := map_range_eq (ma_bytes sops rops (maD a b c 16) (maA (maD a b c 16) i).1 (maA (maD a b c 16) i).2) (i := i - 1) (by omega)
    have e1 : i - 1 + 1 = i := by omega
    have e2 : i - 1 + 2 = i + 1 := by omega
    rw [e1, e2] at hx
    have hg := ih (i + 1) (by omega) (by omega) (by omega)
    rw [maA_s1, maA_s2] at hg
    refine .at 1 maTd4 300 hx (AllP_app ⟨?_, ?_, trivial⟩ (maO1_ok (by omega) hB.1)) (.lp hg)
    · rw [wid_arr, l1]; exact Nat.beq_refl _
    · exact lim_ok (by omega) (by omega)
theorem outer_goes : ∀ n i, 16 - i = n → i ≤ 16 → Goes Try.prog (maT sops rops) maF (OutIs (maRes a b c)) (.code (hd maF).1 :: .lp (hd maF).1 :: (hd maF).2) (maS a b c (maD a b c i) i) := by
  intro n
  induction n with
  | zero =>
    intro i hn hi
    have : i = 16 := by omega
    subst this
    have hB := (maD_spec a b c 16 (by decide)).1
    refine .at 1 maTd3 300 (ma_end sops rops a b c (maD a b c 16)) trivial (.loop (.at 1 maTd4 300 (ma_byte0 sops rops (maD a b c 16)) (maO1_ok (by decide) hB.1) (.lp ?_)))
    have hg := bytes_goes a b c 32 1 rfl (by decide) (by decide)
    rw [maA_one1, maA_one2] at hg
    exact hg
  | succ n ih =>
    intro i hn hi
    have hlt : i < 16 := by omega
    have hB := (maD_spec a b c i hi).1
    have hM : i * (17 * 2 ^ 32) ≤ 16 * (17 * 2 ^ 32) := Nat.mul_le_mul_right _ (by omega)
    have hZ := (maZ_spec (c := c) hB hlt (by omega)).1
    have inner : ∀ m k, 16 - k = m → k ≤ 16 → Goes Try.prog (maT sops rops) maF (OutIs (maRes a b c)) (.code (hd2 maF).1 :: .lp (hd2 maF).1 :: (hd2 maF).2) (maS2 a b c (maI a b i (maZ c i (maD a b c i)) k) i k) := by
      intro m
      induction m with
      | zero =>
        intro k hm hk
        have : k = 16 := by omega
        subst this
        exact .at 1 ⟨[6, 7, 8, 9, 10, 11], [10], []⟩ 300 (map_range_eq (ma_exit sops rops a b c (maI a b i (maZ c i (maD a b c i)) 16)) hlt) trivial (.lp (ih (i + 1) (by omega) (by omega)))
      | succ m ihm =>
        intro k hm hk
        have hI := (maI_spec (a := a) (b := b) hZ hlt (by omega) k hk).1
        exact .at 2 maTd2 300 (ma_inner sops rops a b c _ hlt (show k < 16 by omega)) (maO_ok (by omega) hI.1) (.lp (ihm (k + 1) (by omega) (by omega)))
    exact .at 2 maTd2 300 (map_range_eq (ma_outer sops rops a b c (maD a b c i)) hlt) (maO_ok (by omega) hB.1) (.loop (inner 16 0 rfl (by decide)))
end

def specMA : FnSpec := spec3 dK dK dK fun a b c => (.pv (keyP (maVal a b c)), [])
theorem muladd_ok : SpecOK Try.prog 12 specMA :=
  goes3_ok S2_ok mixed (fn := maF) Try.func12 (by decide +kernel) (by kernel_rfl) (by kernel_rfl) (fun a b c => ⟨_, keyP_val _⟩) fun a b c _ =>
    .at 1 maTd 300 (ma_first sops rops a b c) trivial (.loop (outer_goes a b c 16 0 rfl (by decide)))

end Go.Proofs.Ytahkpabndfaoiaa
