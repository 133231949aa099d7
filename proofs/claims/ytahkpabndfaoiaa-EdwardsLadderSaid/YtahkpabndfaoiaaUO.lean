/-
The ladder: its rounds.
-/
import Derived.Test.YtahkpabndfaoiaaUN

/- The ladder: its rounds. -/
namespace Go.Proofs.Ytahkpabndfaoiaa
open Eng Go Go.RowKit Go.Proofs Ec
variable (o : LaOps)
theorem lm_rounds (e : Nat) (x : Fin Ec.P) (s : X4) : (List.range 255).map (fun (i : Nat) => runS Try.prog (T40 o) lmF 1 lmTd 300 (.code (hd lmF).1 :: .lp (hd lmF).1 :: (hd lmF).2) (lmS [.dig .u8 8 e 32] x (ptP s).cells (i : Int))) =
    (List.range 255).map fun (i : Nat) => some (.at (.lp (hd lmF).1 :: (hd lmF).2) (lmS [.dig .u8 8 e 32] x (ptP (o.rung x s (bitAt e (i + 1)))).cells ((i + 1 : Nat) : Int)), []) := by kernel_rfl
end Go.Proofs.Ytahkpabndfaoiaa
