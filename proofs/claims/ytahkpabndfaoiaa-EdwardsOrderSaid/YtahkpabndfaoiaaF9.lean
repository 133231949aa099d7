/-
What is known of the field's functions: which bytes are numbers.
-/
import Derived.Test.YtahkpabndfaoiaaF8
namespace Go.Proofs.Ytahkpabndfaoiaa
open Eng Go Go.RowKit Go.Proofs

theorem canon_x (o : FOps) (n : Nat) : callX Try.prog (lookT (T3 o)) 300 Try.f55 [keyP n] = some (.pv (bo (eqL (digI 8 (o.num (o.of n)) 32) (digI 8 n 32))), []) := by kernel_rfl
def specCanon : FnSpec := spec1 dK fun n => (.pv (bo (decide (n % 2 ^ 256 < Ec.P))), [])
theorem canon_gen {n A M p : Nat} (hA : A ∣ M) (hp : 0 < p) (hpA : p ≤ A) (hAM : A ≤ M) : (n % A % p) % M = n % M ↔ n % M < p := by
  rw [← Nat.mod_mod_of_dvd n hA]
  generalize n % M = m
  have h1 : m % A % p < p := Nat.mod_lt _ hp
  rw [Nat.mod_eq_of_lt (Nat.lt_of_lt_of_le h1 (Nat.le_trans hpA hAM))]
  constructor
  · intro h; rw [← h]; exact h1
  · intro h; rw [Nat.mod_eq_of_lt (Nat.lt_of_lt_of_le h hpA), Nat.mod_eq_of_lt h]
theorem num_of (n : Nat) : fops.num (fops.of n) = n % 57896044618658097711785492504343953926634992332820282019728792003956564819968 % Ec.P := rfl
theorem canon_eq (n : Nat) : eqL (digI 8 (fops.num (fops.of n)) 32) (digI 8 n 32) = decide (n % 2 ^ 256 < Ec.P) := by
  rw [eqL_dig, Bool.eq_iff_iff, decide_eq_true_eq, decide_eq_true_eq, num_of]
  exact canon_gen (M := 2 ^ (8 * 32)) (by decide) (by decide) (by decide) (by decide)
theorem canon_ok : SpecOK Try.prog 55 specCanon :=
  spec1_ok Try.func55 (by decide +kernel) (by kernel_rfl) T3_ok mixed (by kernel_rfl) fun n _ => by
    have h := canon_x fops n
    rw [canon_eq] at h
    exact ⟨_, _, _, h, trivial, rfl, rfl⟩

theorem swap_x (o : FOps) (x y : Fin Ec.P) (s : Bool) : callX Try.prog (lookT (T3 o)) 300 Try.f86 [feP x, feP y, bo s] = some (.tup [feP (o.sel x y s), feP (o.sel y x s)], []) := by kernel_rfl
def specSwap : FnSpec := spec3 dE dE dB fun x y s => (.tup [feP (cond s y x), feP (cond s x y)], [])
theorem swap_ok : SpecOK Try.prog 86 specSwap :=
  spec3_ok Try.func86 (by decide +kernel) (by kernel_rfl) T3_ok mixed (by kernel_rfl) fun x y s _ => ⟨_, _, _, swap_x fops x y s, trivial, rfl, rfl⟩

/-- the field's functions, all of them -/
structure KOps extends FOps where
  canon : Nat → Bool
  root : Fin Ec.P → Fin Ec.P → Fin Ec.P × Bool
def kops : KOps where
  toFOps := fops
  canon n := decide (n % 2 ^ 256 < Ec.P)
  root := fops.root
def T4 (o : KOps) : List (FuncId × FnSpec) :=
  (55, spec1 dK fun n => (.pv (bo (o.canon n)), [])) ::
  (81, spec2 dE dE fun u v => (.tup [feP (o.root u v).1, bo (o.root u v).2], [])) ::
  (86, spec3 dE dE dB fun x y s => (.tup [feP (o.sel x y s), feP (o.sel y x s)], [])) :: T3 o.toFOps
theorem T4_ok : TableOK Try.prog (lookT (T4 kops)) := tableOK_cons canon_ok (tableOK_cons root_ok (tableOK_cons swap_ok T3_ok))

end Go.Proofs.Ytahkpabndfaoiaa
