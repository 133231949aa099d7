/-
The reference's numbers: sixteen digits of sixteen bits.
-/
import Derived.Test.YtahkpabndfaoiaaUF
import Derived.Test.YtahkpabndfaoiaaUD

/- The reference's numbers: sixteen digits of sixteen bits. -/
namespace Eng
open Go Go.RowKit

/-- numbers of 256 bits as the reference has them -/
def numP (n : Nat) : PV := .agg [.dig .u64 16 n 16]
def numV (n : Nat) : Value := intsV .u64 (digI 16 n 16)
theorem numP_val (n : Nat) : (numP n).val? = some (numV n) := rfl
def decN (p : PV) : Option (Nat × List Prop) :=
  match p with
  | .agg [.dig .u64 16 x 16] => some (x, [])
  | .agg [.nm x] => some (x.val, [])
  | p => match p.ints? .u64 with
    | some l => cond (Nat.beq l.length 16) (some (numI 16 l, [∀ a ∈ l, 0 ≤ a ∧ a < 65536])) none
    | none => none
def dN : Dec Nat where
  dec := decN
  can := numP
  law := by
    intro p x pre ρ v h hp e
    unfold decN at h
    split at h
    · cases h
      have := PV.val?_den (ρ := ρ) (numP_val x)
      unfold numP at this
      rw [this] at e
      cases e
      exact numP_val _
    · rename_i y
      cases h
      have := PV.val?_den (ρ := ρ) (nmP_val y)
      unfold nmP at this
      rw [this] at e
      cases e
      exact numP_val _
    · cases h1 : p.ints? .u64 with
      | none => simp [h1] at h
      | some l =>
        simp only [h1] at h
        by_cases hl : Nat.beq l.length 16 = true
        · rw [hl] at h
          cases h
          have := PV.ints?_spec h1 e
          subst this
          rw [numP_val]
          unfold numV
          have hn : l.length = 16 := Nat.eq_of_beq_eq_true hl
          have := digI_numI (w := 16) (l := l) hp.1
          rw [hn] at this
          rw [this]
        · rw [Bool.eq_false_iff.2 hl] at h
          cases h

/-- a number below the prime, as one modulo it -/
def decR (p : PV) : Option (Fin Ec.P × List Prop) :=
  match p with
  | .agg [.nm x] => some (x, [])
  | p => match decN p with
    | some (n, pre) => some (toF n, (n < Ec.P) :: pre)
    | none => none
theorem nmV_of {n : Nat} (h : n < Ec.P) : nmV (toF n) = numV n := by
  unfold nmV numV toF
  simp only [Nat.mod_eq_of_lt h]
def dR : Dec (Fin Ec.P) where
  dec := decR
  can := nmP
  law := by
    intro p x pre ρ v h hp e
    unfold decR at h
    split at h
    · cases h
      have := PV.val?_den (ρ := ρ) (nmP_val x)
      unfold nmP at this
      rw [this] at e
      cases e
      exact nmP_val _
    · cases h1 : decN p with
      | none => simp [h1] at h
      | some np =>
        obtain ⟨n, pre'⟩ := np
        simp only [h1] at h
        cases h
        have h2 := dN.law (p := p) h1 hp.2 e
        rw [nmP_val, nmV_of hp.1]
        exact h2

def wu (x : Int) : Int := IntKind.wrap .u64 x
def subD : List Int → List Int → Int → List Int
  | a :: l, b :: m, c =>
    let x := wu (wu (wu (a + 65536) - b) - c)
    x.tmod 65536 :: subD l m (wu (1 - wu (x.tdiv 65536)))
  | _, _, _ => []
end Eng
namespace Go.Proofs.Ytahkpabndfaoiaa
open Eng Go Go.RowKit Go.Proofs Ec

theorem rof_x (n : Nat) : callX Try.prog (lookT []) 3000 Try.f41 [keyP n] =
   some (.pv (.agg (intsC .u64 ((List.range 16).map fun i => wu (wu (dg 8 n (2 * i)) + wu (256 * wu (dg 8 n (2 * i + 1))))))), []) := by kernel_rfl
theorem rbytes_x (n : Nat) : callX Try.prog (lookT []) 3000 Try.f10 [numP n] =
   some (.pv (.agg (intsC .u8 ((List.range 16).flatMap fun i => [IntKind.wrap .u8 (dg 16 n i), IntKind.wrap .u8 ((dg 16 n i).fdiv (2 ^ 8))]))), []) := by kernel_rfl
def lessX (a b : Nat) : Nat → Option (SV × List Prop)
  | 0 => some (.pv (bo false), [])
  | i + 1 => cond (dg 16 a i != dg 16 b i) (some (.pv (bo (decide (dg 16 a i < dg 16 b i))), [])) (lessX a b i)
theorem rless_x (a b : Nat) : callX Try.prog (lookT []) 3000 Try.f60 [numP a, numP b] = lessX a b 16 := by kernel_rfl
theorem rminus_x (a b : Nat) : callX Try.prog (lookT []) 3000 Try.f75 [numP a, numP b] =
   some (.pv (.agg (intsC .u64 (subD (digI 16 a 16) (digI 16 b 16) 0))), []) := by kernel_rfl
theorem rsmall_x (x : Int) : callX Try.prog (lookT []) 3000 Try.f48 [u64 x] =
   some (.pv (.agg (intsC .u64 (((List.range 4).map fun i => Fw.andI (x.fdiv (2 ^ (min (16 * i) 64))) 65535) ++ List.replicate 12 0))), []) := by kernel_rfl
theorem rprime_x : callX Try.prog (lookT []) 3000 Try.f61 [] = some (.pv (.agg (intsC .u64 (digI 16 Ec.P 16))), []) := by kernel_rfl
theorem order_x : callX Try.prog (lookT []) 30000 Try.f11 [] = some (.pv (.agg (intsC .u64 (digI 16 Ec.L 16))), []) := by kernel_rfl
theorem clamp_x (n : Nat) : callX Try.prog (lookT []) 3000 Try.f33 [keyP n] =
   some (.pv (.agg (.val (.int .u8 (IntKind.wrap .u8 (IntKind.wrap .u8 ((dg 8 n 0).tdiv 8) * 8))) :: ((List.range 30).map fun i => Cell.dg1 .u8 8 n (i + 1)) ++ [.val (.int .u8 (IntKind.wrap .u8 ((dg 8 n 31).tmod 64 + 64)))])), []) := by kernel_rfl

end Go.Proofs.Ytahkpabndfaoiaa
