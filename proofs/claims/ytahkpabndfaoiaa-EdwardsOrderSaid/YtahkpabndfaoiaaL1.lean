/-
The statements' functions: the chapter's rows; the order.
-/
import Derived.Test.YtahkpabndfaoiaaH4
namespace Go.Proofs.Ytahkpabndfaoiaa
open Eng Go Go.RowKit Go.Proofs Ec

def T11 (o : POps) (r : ROps) : List (FuncId × FnSpec) :=
  (10, specRBytes) ::
  (11, spec0 (.pv (numP r.ord))) :: T9 o
theorem T11_ok : TableOK Try.prog (lookT (T11 pops rops)) := tableOK_cons rbytes_ok (tableOK_cons order_ok T9_ok)

def K1 (t : Int) : List Int := t :: List.replicate 31 0
def kB1 (t : Int) : Prop := ∀ a ∈ K1 t, 0 ≤ a ∧ a < 256
def knX (o : POps) (r : ROps) (Y : Nat) : Nat → Option (SV × List Prop)
  | 0 => cond (dg 8 Y 0 == 88)
    (cond (o.same (o.pmul o.pbase r.ord) zeroX4)
      (some (.pv (bo (eqL (digI 8 (o.pbytes zeroX4) 32) (K1 1))), [zeroOb, zeroOb, zeroOb, zeroOb, zeroOb, zeroOb, zeroOb, zeroOb, kB1 1]))
      (some (.pv (bo false), [zeroOb, zeroOb, zeroOb, zeroOb, kB1 1])))
    (some (.pv (bo false), [kB1 1]))
  | n + 1 => cond (dg 8 Y (31 - n) != 102) (some (.pv (bo false), [kB1 1])) (knX o r Y n)
theorem known_x (o : POps) (r : ROps) : callX Try.prog (lookT (T11 o r)) 3000 Try.f16 [] = knX o r (o.py (o.pmul o.pbase (numI 8 (K1 1)))) 31 := by kernel_rfl

def T12 (o : POps) (r : ROps) (ma : Nat → Nat → Nat → Nat) : List (FuncId × FnSpec) :=
  (16, spec0 (.pv (bo true))) ::
  (12, spec3 dK dK dK fun a b c => (.pv (keyP (ma a b c)), [])) :: T11 o r
def K0 : List Int := List.replicate 32 0
def kB0 : Prop := ∀ a ∈ K0, 0 ≤ a ∧ a < 256
theorem eorder_x (o : POps) (r : ROps) (ma : Nat → Nat → Nat → Nat) (k : Nat) (t : Int) : callX Try.prog (lookT (T12 o r ma)) 3000 Try.f3 [keyP k, .one (.val (.int .u8 t))] =
    cond (!o.same (o.pmul o.pbase k) (o.pmul o.pbase (ma k (numI 8 (K1 1)) (numI 8 K0)))) (some (.pv (bo false), [kB1 1, kB0]))
      (cond (!o.same (o.pmul (o.pmul o.pbase k) r.ord) zeroX4) (some (.pv (bo false), [zeroOb, zeroOb, zeroOb, zeroOb, kB1 1, kB0]))
        (cond (o.same (o.pmul (o.pmul o.pbase k) (numI 8 (K1 t))) (o.pmul o.pbase (ma k (numI 8 (K1 t)) (numI 8 K0)))) (some (.pv (bo true), [kB1 t, kB1 t, kB0, zeroOb, zeroOb, zeroOb, zeroOb, kB1 1, kB0]))
          (some (.pv (bo false), [kB1 t, kB1 t, kB0, zeroOb, zeroOb, zeroOb, zeroOb, kB1 1, kB0])))) := by kernel_rfl

end Go.Proofs.Ytahkpabndfaoiaa
