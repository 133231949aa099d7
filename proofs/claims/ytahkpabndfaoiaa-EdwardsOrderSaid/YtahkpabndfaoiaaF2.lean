/-
What is known of the field's functions: words' sums, products, and less, fold.
-/
import Derived.Test.YtahkpabndfaoiaaProg
import Derived.Test.YtahkpabndfaoiaaE13
import Derived.Laws.Externs
import Derived.Lib.Hide
namespace Go.Proofs.Ytahkpabndfaoiaa
open Eng Go Go.RowKit Go.Proofs

theorem mixed : Try.prog.follows .mixedOrders = true := by kernel_rfl

/-- a call of a function without a body, by its entry -/
theorem specOK_ext {P : Program} {f : FuncId} {g : FnSpec} (h : ∀ ps sv pre, g ps = some (sv, pre) → AllP pre → ∀ ρ vals, denPs ρ ps = some vals → ∃ v, relS ρ sv v ∧ ∀ w : World, (callFunc f vals.toArray).run P w = .ok (.value v) w) : SpecOK P f g := by
  intro ps sv pre hg hp ρ vals hd w
  obtain ⟨v, h1, h2⟩ := h ps sv pre hg hp ρ vals hd
  exact ⟨v, h1, .inl (h2 w)⟩

def sub64Entry : Array Value → Sem Value := fun args => do
  let (x, y, b) ← Extern.MathBitsCarry.three "Sub64" args
  pure (Extern.MathBitsCarry.pair ((x + Extern.MathBitsCarry.m64 - y - b) % Extern.MathBitsCarry.m64) (if x < y + b then 1 else 0))
def add64Ent : Array Value → Sem Value := fun args => do
  let (x, y, c) ← Extern.MathBitsCarry.three "Add64" args
  pure (Extern.MathBitsCarry.pair ((x + y + c) % Extern.MathBitsCarry.m64) ((x + y + c) / Extern.MathBitsCarry.m64))

theorem run_sub (x y b : Int) (hb : b.toNat ≤ 1) (w : World) : (callFunc 83 #[.int .u64 x, .int .u64 y, .int .u64 b]).run Try.prog w = .ok (.value (.tuple #[.int .u64 (Fw.subS x y b), .int .u64 (Fw.subB x y b)])) w := by
  rw [run_callFunc_extern Try.func83 (by kernel_rfl) (by kernel_rfl) (by kernel_rfl) (e := sub64Entry) (by kernel_rfl)]
  cases b with
  | ofNat n =>
    have : n = 0 ∨ n = 1 := by simp at hb; omega
    rcases this with rfl | rfl <;> rfl
  | negSucc n => rfl
theorem run_add (x y c : Int) (hc : c.toNat ≤ 1) (w : World) : (callFunc 65 #[.int .u64 x, .int .u64 y, .int .u64 c]).run Try.prog w = .ok (.value (.tuple #[.int .u64 (Fw.addS x y c), .int .u64 (Fw.addC x y c)])) w := by
  rw [run_callFunc_extern Try.func65 (by kernel_rfl) (by kernel_rfl) (by kernel_rfl) (e := add64Ent) (by kernel_rfl)]
  cases c with
  | ofNat n =>
    have : n = 0 ∨ n = 1 := by simp at hc; omega
    rcases this with rfl | rfl <;> rfl
  | negSucc n => rfl

/-- three words in, two out -/
def specW (f g : Int → Int → Int → Int) : FnSpec
  | [x, y, b] => match x.int?, y.int?, b.int? with
    | some (kx, x), some (ky, y), some (kb, b) => cond (ikEq kx .u64 && (ikEq ky .u64 && ikEq kb .u64)) (some (.tup [u64 (f x y b), u64 (g x y b)], [b.toNat ≤ 1])) none
    | _, _, _ => none
  | _ => none

theorem specW_ok {f : FuncId} {s g : Int → Int → Int → Int} (h : ∀ x y b : Int, b.toNat ≤ 1 → ∀ w : World, (callFunc f #[.int .u64 x, .int .u64 y, .int .u64 b]).run Try.prog w = .ok (.value (.tuple #[.int .u64 (s x y b), .int .u64 (g x y b)])) w) : SpecOK Try.prog f (specW s g) := by
  refine specOK_ext ?_
  intro ps sv pre hg hp ρ vals hd
  unfold specW at hg
  split at hg
  · rename_i px py pb
    split at hg
    · rename_i kx x ky y kb b e1 e2 e3
      by_cases hk : (ikEq kx .u64 && (ikEq ky .u64 && ikEq kb .u64)) = true
      · rw [hk] at hg
        cases hg
        simp only [Bool.and_eq_true] at hk
        obtain ⟨k1, k2, k3⟩ := hk
        have k1 := ikEq_spec k1
        have k2 := ikEq_spec k2
        have k3 := ikEq_spec k3
        subst k1; subst k2; subst k3
        obtain ⟨v1, l1, d1, d1', rfl⟩ := denPs_cons hd
        obtain ⟨v2, l2, d2, d2', rfl⟩ := denPs_cons d1'
        obtain ⟨v3, l3, d3, d3', rfl⟩ := denPs_cons d2'
        have := denPs_nil d3'
        subst this
        have a1 := PV.int?_spec e1 d1
        have a2 := PV.int?_spec e2 d2
        have a3 := PV.int?_spec e3 d3
        subst a1; subst a2; subst a3
        exact ⟨_, ⟨_, rfl, rfl⟩, fun w => h x y b hp.1 w⟩
      · rw [Bool.eq_false_iff.2 hk] at hg
        cases hg
    · cases hg
  · cases hg

theorem sub_ok : SpecOK Try.prog 83 (specW Fw.subS Fw.subB) := specW_ok run_sub
theorem add_ok : SpecOK Try.prog 65 (specW Fw.addS Fw.addC) := specW_ok run_add

def primeL : List Int := [18446744073709551597, 18446744073709551615, 18446744073709551615, 9223372036854775807]
def spec0 (res : SV) : FnSpec := fun ps => match ps with
    | [] => some (res, [])
    | _ => none
def specPrime : FnSpec := spec0 (.pv (.agg (intsC .u64 primeL)))
theorem prime_ok : SpecOK Try.prog 82 specPrime :=
  spec0_ok (n := 100) Try.func82 (by decide +kernel) (by kernel_rfl) (tableOK_nil _) mixed (.of (sv := .pv (.agg (intsC .u64 primeL))) (ob := []) (by kernel_rfl) trivial rfl)

def R1 : List (FuncId × FnSpec) := [(83, specW Fw.subS Fw.subB), (65, specW Fw.addS Fw.addC), (82, specPrime)]
theorem R1_ok : TableOK Try.prog (lookT R1) := tableOK_cons sub_ok (tableOK_cons add_ok (tableOK_cons prime_ok (tableOK_nil _)))

end Go.Proofs.Ytahkpabndfaoiaa
