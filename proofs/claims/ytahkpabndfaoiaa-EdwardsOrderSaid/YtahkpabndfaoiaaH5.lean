/-
The reference's products and sums modulo the group's order.
-/
import Derived.Test.YtahkpabndfaoiaaH4
import Derived.Test.YtahkpabndfaoiaaE17
namespace Go.Proofs.Ytahkpabndfaoiaa
open Eng Go Go.RowKit Go.Proofs

structure SOps where
  hi : List Int → List Int
  bt : List Int → Nat
  red : List Int → Nat
def redPre (l : List Int) : List Prop := [(∀ a ∈ l, 0 ≤ a ∧ a < 256) ∧ 0 < l.length ∧ l.length ≤ 1048576]
def S1 (o : SOps) : List (FuncId × SlSpec) := [
  (72, spA .u8 .read (fun l => .row 5 [.arr .u8 (o.hi l)]) hiPre),
  (71, spA .u8 .read (fun l => .val (.pv (numP (o.bt l)))) btPre)]
def S2 (o : SOps) : List (FuncId × SlSpec) :=
  (42, spA .u8 .read (fun l => .val (.pv (keyP (o.red l)))) redPre) :: S1 o
noncomputable abbrev rdF : Func := Try.f42
theorem red_x (o : SOps) (r : ROps) (l : List Int) (e : TypeId) : runS Try.prog (lookS (S1 o) (T10 r)) rdF 0 ⟨[], [], []⟩ 300 [.code (bodyOf rdF)] (startA rdF.ntmps .u8 l e .ro) =
    some (.out (.val (.pv (keyP (o.bt (o.hi l))))), hiPre l ++ ([Nat.beq l.length (widS [.arr .u8 l]) = true] ++ (btPre (o.hi l) ++ [Nat.beq (widS [.arr .u8 (o.hi l)]) (widS [.arr .u8 (o.hi l)]) = true]))) := by kernel_rfl

def maIn (a b i : Nat) (d : List Int) : List Int := (List.range 16).foldl (fun d k => d.set (i + k) (wu (d.getD (i + k) 0 + wu (dg 16 a i * dg 16 b k)))) d
def maOut (a b c : Nat) : List Int := (List.range 16).foldl (fun d i => maIn a b i (d.set i (wu (d.getD i 0 + dg 16 c i)))) (List.replicate 33 0)
def maB : List Int → Int → List Int
  | [], _ => []
  | d :: l, o => let n := wu (d + o)
    IntKind.wrap .u8 n :: IntKind.wrap .u8 (n.fdiv (2 ^ 8)) :: maB l (n.fdiv (2 ^ 16))


noncomputable abbrev maF : Func := Try.f12
def zero32 : List Cell := intsC .u8 (List.replicate 32 0)
def pt0 (d : Nat) : SV := .pv (.one (.ptr d 0 0))
def maTm (i : Nat) (s12 : SV) : List SV := [.any, .any, .any, .any, .any, .any, pt0 6, pt0 7, pt0 8, pt0 9, .pv (.one (.sli 10 0 0 33 none true)), .pv (iv (i : Int)), s12] ++ List.replicate 73 .any
def maHp (a b c : Nat) (d : List Int) : Heap := [[], [], [], [], [], [], [⟨zero32, 23, .var⟩], [⟨[.dig .u64 16 a 16], 32, .var⟩], [⟨[.dig .u64 16 b 16], 32, .var⟩], [⟨[.dig .u64 16 c 16], 32, .var⟩], [⟨[.arr .u64 d], 24, .sl⟩]] ++ List.replicate 75 []
def maS (a b c : Nat) (d : List Int) (i : Nat) : St := ⟨maTm i .any, maHp a b c d⟩
def maS2 (a b c : Nat) (d : List Int) (i k : Nat) : St := ⟨maTm i (.pv (iv (k : Int))), maHp a b c d⟩
def maTd : Td := ⟨[6, 7, 8, 9, 10, 11], [10], [3, 4, 5]⟩
def maTd2 : Td := ⟨[6, 7, 8, 9, 10, 11, 12], [10], []⟩
def maO (j : Nat) (d : List Int) : List Prop := [idxOk (j : Int) 33 = true, Nat.blt j d.length = true, idxOk (j : Int) 33 = true, Nat.blt j d.length = true]
def maTd3 : Td := ⟨[6, 10, 13, 14, 15], [10], [7, 8, 9]⟩
def maTm3 (s13 : SV) (v : Int) (i : Nat) : List SV := [.any, .any, .any, .any, .any, .any, pt0 6, .any, .any, .any, .pv (.one (.sli 10 0 0 33 none true)), .any, .any, s13, .pv (u64 v), .pv (iv (i : Int))] ++ List.replicate 70 .any
def maHp3 (d : List Int) (b13 : List Blk) : Heap := [[], [], [], [], [], [], [⟨zero32, 23, .var⟩], [], [], [], [⟨[.arr .u64 d], 24, .sl⟩], [], [], b13] ++ List.replicate 72 []
def maE0 (d : List Int) : St := ⟨maTm3 nilS 0 0, maHp3 d []⟩
def maE (d acc : List Int) (v : Int) (i : Nat) : St := ⟨maTm3 (.pv (.one (.sli 13 0 0 (2 * i) none true))) v i, maHp3 d [⟨[.arr .u8 acc], 5, .sl⟩]⟩
def maTd4 : Td := ⟨[6, 10, 13, 14, 15], [13], [80]⟩
def hd2 (fn : Func) : Code × List It := match nav 100 (hd fn).1 (.lp (hd fn).1 :: (hd fn).2) with
  | some r => r
  | none => (.skip, [])
/-- the loop behind the first one -/
def hdB (fn : Func) : Code × List It := match (hd fn).2 with
  | .blk _ :: .code c :: k => match nav 100 c k with
    | some r => r
    | none => (.skip, [])
  | .code c :: k => match nav 100 c k with
    | some r => r
    | none => (.skip, [])
  | _ => (.skip, [])
section
variable (o : SOps) (r : ROps) (a b c : Nat) (d : List Int)
noncomputable abbrev maT (o : SOps) (r : ROps) : Table := lookS (S2 o) (T10 r)
theorem ma_first : runS Try.prog (maT o r) maF 1 maTd 300 [.code (bodyOf maF)] (Eng.start maF.ntmps [keyP a, keyP b, keyP c]) =
    some (.at (.code (.loop (hd maF).1) :: (hd maF).2) (maS a b c (List.replicate 33 0) 0), []) := by kernel_rfl
theorem ma_outer : (List.range 16).map (fun i => runS Try.prog (maT o r) maF 2 maTd2 300 (.code (hd maF).1 :: .lp (hd maF).1 :: (hd maF).2) (maS a b c d i)) =
    (List.range 16).map fun i => some (.at (.code (.loop (hd2 maF).1) :: (hd2 maF).2) (maS2 a b c (maZ c i d) i 0), maO i d) := by kernel_rfl
theorem ma_inner0 : (List.range 16).map (fun k => runS Try.prog (maT o r) maF 2 maTd2 300 (.code (hd2 maF).1 :: .lp (hd2 maF).1 :: (hd2 maF).2) (maS2 a b c d 0 k)) =
    (List.range 16).map fun k => some (.at (.lp (hd2 maF).1 :: (hd2 maF).2) (maS2 a b c (maK a b 0 k d) 0 (k + 1)), maO (0 + k) d) := by kernel_rfl
theorem ma_inner1 : (List.range 16).map (fun k => runS Try.prog (maT o r) maF 2 maTd2 300 (.code (hd2 maF).1 :: .lp (hd2 maF).1 :: (hd2 maF).2) (maS2 a b c d 1 k)) =
    (List.range 16).map fun k => some (.at (.lp (hd2 maF).1 :: (hd2 maF).2) (maS2 a b c (maK a b 1 k d) 1 (k + 1)), maO (1 + k) d) := by kernel_rfl
theorem ma_inner2 : (List.range 16).map (fun k => runS Try.prog (maT o r) maF 2 maTd2 300 (.code (hd2 maF).1 :: .lp (hd2 maF).1 :: (hd2 maF).2) (maS2 a b c d 2 k)) =
    (List.range 16).map fun k => some (.at (.lp (hd2 maF).1 :: (hd2 maF).2) (maS2 a b c (maK a b 2 k d) 2 (k + 1)), maO (2 + k) d) := by kernel_rfl
theorem ma_inner3 : (List.range 16).map (fun k => runS Try.prog (maT o r) maF 2 maTd2 300 (.code (hd2 maF).1 :: .lp (hd2 maF).1 :: (hd2 maF).2) (maS2 a b c d 3 k)) =
    (List.range 16).map fun k => some (.at (.lp (hd2 maF).1 :: (hd2 maF).2) (maS2 a b c (maK a b 3 k d) 3 (k + 1)), maO (3 + k) d) := by kernel_rfl
theorem ma_inner4 : (List.range 16).map (fun k => runS Try.prog (maT o r) maF 2 maTd2 300 (.code (hd2 maF).1 :: .lp (hd2 maF).1 :: (hd2 maF).2) (maS2 a b c d 4 k)) =
    (List.range 16).map fun k => some (.at (.lp (hd2 maF).1 :: (hd2 maF).2) (maS2 a b c (maK a b 4 k d) 4 (k + 1)), maO (4 + k) d) := by kernel_rfl
theorem ma_inner5 : (List.range 16).map (fun k => runS Try.prog (maT o r) maF 2 maTd2 300 (.code (hd2 maF).1 :: .lp (hd2 maF).1 :: (hd2 maF).2) (maS2 a b c d 5 k)) =
    (List.range 16).map fun k => some (.at (.lp (hd2 maF).1 :: (hd2 maF).2) (maS2 a b c (maK a b 5 k d) 5 (k + 1)), maO (5 + k) d) := by kernel_rfl
theorem ma_inner6 : (List.range 16).map (fun k => runS Try.prog (maT o r) maF 2 maTd2 300 (.code (hd2 maF).1 :: .lp (hd2 maF).1 :: (hd2 maF).2) (maS2 a b c d 6 k)) =
    (List.range 16).map fun k => some (.at (.lp (hd2 maF).1 :: (hd2 maF).2) (maS2 a b c (maK a b 6 k d) 6 (k + 1)), maO (6 + k) d) := by kernel_rfl
theorem ma_inner7 : (List.range 16).map (fun k => runS Try.prog (maT o r) maF 2 maTd2 300 (.code (hd2 maF).1 :: .lp (hd2 maF).1 :: (hd2 maF).2) (maS2 a b c d 7 k)) =
    (List.range 16).map fun k => some (.at (.lp (hd2 maF).1 :: (hd2 maF).2) (maS2 a b c (maK a b 7 k d) 7 (k + 1)), maO (7 + k) d) := by kernel_rfl
theorem ma_inner8 : (List.range 16).map (fun k => runS Try.prog (maT o r) maF 2 maTd2 300 (.code (hd2 maF).1 :: .lp (hd2 maF).1 :: (hd2 maF).2) (maS2 a b c d 8 k)) =
    (List.range 16).map fun k => some (.at (.lp (hd2 maF).1 :: (hd2 maF).2) (maS2 a b c (maK a b 8 k d) 8 (k + 1)), maO (8 + k) d) := by kernel_rfl
theorem ma_inner9 : (List.range 16).map (fun k => runS Try.prog (maT o r) maF 2 maTd2 300 (.code (hd2 maF).1 :: .lp (hd2 maF).1 :: (hd2 maF).2) (maS2 a b c d 9 k)) =
    (List.range 16).map fun k => some (.at (.lp (hd2 maF).1 :: (hd2 maF).2) (maS2 a b c (maK a b 9 k d) 9 (k + 1)), maO (9 + k) d) := by kernel_rfl
theorem ma_inner10 : (List.range 16).map (fun k => runS Try.prog (maT o r) maF 2 maTd2 300 (.code (hd2 maF).1 :: .lp (hd2 maF).1 :: (hd2 maF).2) (maS2 a b c d 10 k)) =
    (List.range 16).map fun k => some (.at (.lp (hd2 maF).1 :: (hd2 maF).2) (maS2 a b c (maK a b 10 k d) 10 (k + 1)), maO (10 + k) d) := by kernel_rfl
theorem ma_inner11 : (List.range 16).map (fun k => runS Try.prog (maT o r) maF 2 maTd2 300 (.code (hd2 maF).1 :: .lp (hd2 maF).1 :: (hd2 maF).2) (maS2 a b c d 11 k)) =
    (List.range 16).map fun k => some (.at (.lp (hd2 maF).1 :: (hd2 maF).2) (maS2 a b c (maK a b 11 k d) 11 (k + 1)), maO (11 + k) d) := by kernel_rfl
theorem ma_inner12 : (List.range 16).map (fun k => runS Try.prog (maT o r) maF 2 maTd2 300 (.code (hd2 maF).1 :: .lp (hd2 maF).1 :: (hd2 maF).2) (maS2 a b c d 12 k)) =
    (List.range 16).map fun k => some (.at (.lp (hd2 maF).1 :: (hd2 maF).2) (maS2 a b c (maK a b 12 k d) 12 (k + 1)), maO (12 + k) d) := by kernel_rfl
theorem ma_inner13 : (List.range 16).map (fun k => runS Try.prog (maT o r) maF 2 maTd2 300 (.code (hd2 maF).1 :: .lp (hd2 maF).1 :: (hd2 maF).2) (maS2 a b c d 13 k)) =
    (List.range 16).map fun k => some (.at (.lp (hd2 maF).1 :: (hd2 maF).2) (maS2 a b c (maK a b 13 k d) 13 (k + 1)), maO (13 + k) d) := by kernel_rfl
theorem ma_inner14 : (List.range 16).map (fun k => runS Try.prog (maT o r) maF 2 maTd2 300 (.code (hd2 maF).1 :: .lp (hd2 maF).1 :: (hd2 maF).2) (maS2 a b c d 14 k)) =
    (List.range 16).map fun k => some (.at (.lp (hd2 maF).1 :: (hd2 maF).2) (maS2 a b c (maK a b 14 k d) 14 (k + 1)), maO (14 + k) d) := by kernel_rfl
theorem ma_inner15 : (List.range 16).map (fun k => runS Try.prog (maT o r) maF 2 maTd2 300 (.code (hd2 maF).1 :: .lp (hd2 maF).1 :: (hd2 maF).2) (maS2 a b c d 15 k)) =
    (List.range 16).map fun k => some (.at (.lp (hd2 maF).1 :: (hd2 maF).2) (maS2 a b c (maK a b 15 k d) 15 (k + 1)), maO (15 + k) d) := by kernel_rfl
theorem ma_inner {i k : Nat} (hi : i < 16) (hk : k < 16) : runS Try.prog (maT o r) maF 2 maTd2 300 (.code (hd2 maF).1 :: .lp (hd2 maF).1 :: (hd2 maF).2) (maS2 a b c d i k) =
    some (.at (.lp (hd2 maF).1 :: (hd2 maF).2) (maS2 a b c (maK a b i k d) i (k + 1)), maO (i + k) d) := by
  match i, hi with
  | 0, _ => exact map_range_eq (ma_inner0 o r a b c d) hk
  | 1, _ => exact map_range_eq (ma_inner1 o r a b c d) hk
  | 2, _ => exact map_range_eq (ma_inner2 o r a b c d) hk
  | 3, _ => exact map_range_eq (ma_inner3 o r a b c d) hk
  | 4, _ => exact map_range_eq (ma_inner4 o r a b c d) hk
  | 5, _ => exact map_range_eq (ma_inner5 o r a b c d) hk
  | 6, _ => exact map_range_eq (ma_inner6 o r a b c d) hk
  | 7, _ => exact map_range_eq (ma_inner7 o r a b c d) hk
  | 8, _ => exact map_range_eq (ma_inner8 o r a b c d) hk
  | 9, _ => exact map_range_eq (ma_inner9 o r a b c d) hk
  | 10, _ => exact map_range_eq (ma_inner10 o r a b c d) hk
  | 11, _ => exact map_range_eq (ma_inner11 o r a b c d) hk
  | 12, _ => exact map_range_eq (ma_inner12 o r a b c d) hk
  | 13, _ => exact map_range_eq (ma_inner13 o r a b c d) hk
  | 14, _ => exact map_range_eq (ma_inner14 o r a b c d) hk
  | 15, _ => exact map_range_eq (ma_inner15 o r a b c d) hk
  | n + 16, h => exact absurd h (by omega)
theorem ma_exit : (List.range 16).map (fun i => runS Try.prog (maT o r) maF 1 ⟨[6, 7, 8, 9, 10, 11], [10], []⟩ 300 (.code (hd2 maF).1 :: .lp (hd2 maF).1 :: (hd2 maF).2) (maS2 a b c d i 16)) =
    (List.range 16).map fun i => some (.at (.lp (hd maF).1 :: (hd maF).2) (maS a b c d (i + 1)), []) := by kernel_rfl
theorem ma_end : runS Try.prog (maT o r) maF 1 maTd3 300 (.code (hd maF).1 :: .lp (hd maF).1 :: (hd maF).2) (maS a b c d 16) =
    some (.at (.code (.loop (hdB maF).1) :: (hdB maF).2) (maE0 d), []) := by kernel_rfl
end
def maN (d : List Int) (v : Int) (i : Nat) : Int := wu (d.getD i 0 + v)
def maO1 (d : List Int) (i : Nat) : List Prop := [idxOk (i : Int) 33 = true, Nat.blt i d.length = true]
theorem ma_byte0 (o : SOps) (r : ROps) (d : List Int) : runS Try.prog (maT o r) maF 1 maTd4 300 (.code (hdB maF).1 :: .lp (hdB maF).1 :: (hdB maF).2) (maE0 d) =
    some (.at (.lp (hdB maF).1 :: (hdB maF).2) (maE d [IntKind.wrap .u8 (maN d 0 0), IntKind.wrap .u8 ((maN d 0 0).fdiv (2 ^ 8))] ((maN d 0 0).fdiv (2 ^ 16)) 1), maO1 d 0) := by kernel_rfl
theorem ma_bytes (o : SOps) (r : ROps) (d acc : List Int) (v : Int) : (List.range 32).map (fun i => runS Try.prog (maT o r) maF 1 maTd4 300 (.code (hdB maF).1 :: .lp (hdB maF).1 :: (hdB maF).2) (maE d acc v (i + 1))) =
    (List.range 32).map fun i => some (.at (.lp (hdB maF).1 :: (hdB maF).2) (maE d (acc ++ [IntKind.wrap .u8 (maN d v (i + 1)), IntKind.wrap .u8 ((maN d v (i + 1)).fdiv (2 ^ 8))]) ((maN d v (i + 1)).fdiv (2 ^ 16)) (i + 2)),
      [Nat.beq (2 * (i + 1)) (widS [.arr .u8 acc]) = true, (Nat.ble 1 (2 * (i + 1) + 2) && Nat.ble (2 * (i + 1) + 2) limN) = true] ++ maO1 d (i + 1)) := by kernel_rfl
theorem ma_last (o : SOps) (r : ROps) (d acc : List Int) (v : Int) : runS Try.prog (maT o r) maF 1 maTd4 300 (.code (hdB maF).1 :: .lp (hdB maF).1 :: (hdB maF).2) (maE d acc v 33) =
    some (.out (.val (.pv (keyP (o.red acc)))), redPre acc ++ [Nat.beq 66 (widS [.arr .u8 acc]) = true]) := by kernel_rfl

end Go.Proofs.Ytahkpabndfaoiaa
