/-
The reference's bits of bytes, the highest first.
-/
import Derived.Test.YtahkpabndfaoiaaF2
import Derived.Test.YtahkpabndfaoiaaE16
namespace Go.Proofs.Ytahkpabndfaoiaa
open Eng Go Go.RowKit Go.Proofs

def nilS : SV := .pv (.one (.val (.slice none 0 0)))
def hiTm (s3 : SV) (l : List Int) (i : Int) : List SV := [.pv (.one (.sli 0 0 0 l.length none true)), .any, .any, s3, .pv (iv i)] ++ List.replicate 24 .any
def hiHp (l : List Int) (e : TypeId) (b3 : List Blk) : Heap := [[⟨[.arr .u8 l], e, .ro⟩], [], [], b3] ++ List.replicate 25 []
def hiS0 (l : List Int) (e : TypeId) (i : Int) : St := ⟨hiTm nilS l i, hiHp l e []⟩
def hiS (l : List Int) (e : TypeId) (acc : List Int) (n : Nat) (i : Int) : St := ⟨hiTm (.pv (.one (.sli 3 0 0 n none true))) l i, hiHp l e [⟨[.arr .u8 acc], 5, .sl⟩]⟩
noncomputable abbrev hiF : Func := Try.f72
noncomputable abbrev hiT : Table := lookT []
def hiTd0 : Td := ⟨[0, 3, 4], [], []⟩
def hiTd : Td := ⟨[0, 3, 4], [3], [26]⟩
def wi (x : Int) : Int := IntKind.wrap .i64 x
def bitE (l : List Int) (i : Int) (k : Nat) : Int := ((l.getD (0 + i.toNat * 1) 0).fdiv (2 ^ k)).tmod 2
theorem hi_first (l : List Int) (e : TypeId) : runS Try.prog hiT hiF 1 hiTd0 300 [.code (bodyOf hiF)] (startA hiF.ntmps .u8 l e .ro) =
    some (.at (.code (.loop (hd hiF).1) :: (hd hiF).2) (hiS0 l e (wi (l.length - 1))), []) := by kernel_rfl
def hiO (l : List Int) (i : Int) : List Prop := [idxOk i l.length = true, Nat.blt (0 + i.toNat * 1) l.length = true]
theorem hi_round0 (l : List Int) (e : TypeId) (i : Int) : runS Try.prog hiT hiF 1 hiTd 3000 (.code (hd hiF).1 :: .lp (hd hiF).1 :: (hd hiF).2) (hiS0 l e i) =
    cond (decide (i ≥ 0)) (some (.at (.lp (hd hiF).1 :: (hd hiF).2) (hiS l e [bitE l i 7, bitE l i 6, bitE l i 5, bitE l i 4, bitE l i 3, bitE l i 2, bitE l i 1, bitE l i 0] 8 (wi (i - 1))),
      hiO l i ++ (hiO l i ++ (hiO l i ++ (hiO l i ++ (hiO l i ++ (hiO l i ++ (hiO l i ++ hiO l i))))))))
     (some (.out (.val nilS), [])) := by kernel_rfl

/-- the acc behind so many bits, and its length -/
def hiA (l : List Int) (i : Int) (acc : List Int) : Nat → List Int
  | 0 => acc
  | k + 1 => hiA l i acc k ++ [bitE l i (7 - k)]
def hiN (n : Nat) : Nat → Nat
  | 0 => n
  | k + 1 => hiN n k + 1
def hiOb (l : List Int) (i : Int) (acc : List Int) (n k : Nat) : List Prop :=
  hiO l i ++ [Nat.beq (hiN n k) (widS [.arr .u8 (hiA l i acc k)]) = true, (Nat.ble 1 (hiN n k + 1) && Nat.ble (hiN n k + 1) limN) = true]
theorem hi_round (l : List Int) (e : TypeId) (acc : List Int) (n : Nat) (i : Int) : runS Try.prog hiT hiF 1 hiTd 3000 (.code (hd hiF).1 :: .lp (hd hiF).1 :: (hd hiF).2) (hiS l e acc n i) =
    cond (decide (i ≥ 0)) (some (.at (.lp (hd hiF).1 :: (hd hiF).2) (hiS l e (hiA l i acc 8) (hiN n 8) (wi (i - 1))),
      hiOb l i acc n 7 ++ (hiOb l i acc n 6 ++ (hiOb l i acc n 5 ++ (hiOb l i acc n 4 ++ (hiOb l i acc n 3 ++ (hiOb l i acc n 2 ++ (hiOb l i acc n 1 ++ hiOb l i acc n 0))))))))
     (some (.out (.row 5 [.arr .u8 acc]), [Nat.beq n (widS [.arr .u8 acc]) = true])) := by kernel_rfl

theorem wi_id {x : Int} (h : -1 ≤ x) (h' : x < 9223372036854775807) : wi x = x := by
  unfold wi
  rw [IntKind.wrap_i64]
  omega

/-- the bits of so many bytes, from the last one on -/
def hiUp (l : List Int) : Nat → List Int
  | 0 => []
  | j + 1 => hiA l ((l.length : Int) - 1 - j) (hiUp l j) 8
theorem hiA_len (l : List Int) (i : Int) (acc : List Int) : ∀ k, (hiA l i acc k).length = acc.length + k
  | 0 => rfl
  | k + 1 => by simp [hiA, hiA_len l i acc k]; omega
theorem hiN_eq (n : Nat) : ∀ k, hiN n k = n + k
  | 0 => rfl
  | k + 1 => by simp [hiN, hiN_eq n k]; omega
theorem hiUp_len (l : List Int) : ∀ j, (hiUp l j).length = 8 * j
  | 0 => rfl
  | j + 1 => by simp [hiUp, hiA_len, hiUp_len l j]; omega

theorem hiO_ok {l : List Int} {i : Int} (h0 : 0 ≤ i) (h1 : i < l.length) : AllP (hiO l i) := by
  refine ⟨by simp [idxOk, h0, h1], ?_, trivial⟩
  rw [Nat.blt_eq]
  omega
theorem AllP_app : ∀ {a b : List Prop}, AllP a → AllP b → AllP (a ++ b)
  | [], _, _, h => h
  | _ :: _, _, ⟨h1, h2⟩, h => ⟨h1, AllP_app h2 h⟩
theorem hiOb_ok {l acc : List Int} {i : Int} {n k : Nat} (h0 : 0 ≤ i) (h1 : i < l.length) (hn : n = acc.length) (hb : n + k + 1 ≤ limN) : AllP (hiOb l i acc n k) := by
  refine AllP_app (hiO_ok h0 h1) ⟨?_, ?_, trivial⟩
  · rw [hiN_eq]
    have : widS [.arr .u8 (hiA l i acc k)] = n + k := by simp [widS, wid, hiA_len, hn]
    rw [this]
    exact Nat.beq_refl _
  · rw [hiN_eq, Nat.ble_eq_true_of_le (show 1 ≤ n + k + 1 by omega), Nat.ble_eq_true_of_le hb]
    rfl

def highF (l : List Int) : List Int := hiUp l l.length
theorem hi_loop (l : List Int) (e : TypeId) (hl : l.length ≤ 1048576) : ∀ d j, l.length - j = d → j ≤ l.length →
    Goes Try.prog hiT hiF (OutIs (.row 5 [.arr .u8 (highF l)])) (.lp (hd hiF).1 :: (hd hiF).2) (hiS l e (hiUp l j) (8 * j) ((l.length : Int) - 1 - j)) := by
  intro d
  induction d with
  | zero =>
    intro j hd hj
    have hjl : j = l.length := by omega
    subst hjl
    refine .lp (.out 1 hiTd 3000 ((hi_round l e _ _ _).trans ?_) (ob := [Nat.beq (8 * l.length) (widS [.arr .u8 (hiUp l l.length)]) = true]) ?_ (o := .row 5 [.arr .u8 (hiUp l l.length)]) ?_)
    · rw [show decide ((l.length : Int) - 1 - l.length ≥ 0) = false from decide_eq_false (by omega)]
      rfl
    · refine ⟨?_, trivial⟩
      have : widS [.arr .u8 (hiUp l l.length)] = 8 * l.length := by simp [widS, wid, hiUp_len]
      rw [this]
      exact Nat.beq_refl _
    · exact ⟨rfl, _, rfl, rfl⟩
  | succ d ih =>
    intro j hd hj
    have hlt : j < l.length := by omega
    have hi0 : 0 ≤ (l.length : Int) - 1 - j := by omega
    have hi1 : (l.length : Int) - 1 - j < l.length := by omega
    have hr := hi_round l e (hiUp l j) (8 * j) ((l.length : Int) - 1 - j)
    rw [show decide ((l.length : Int) - 1 - j ≥ 0) = true from decide_eq_true hi0, cond_true, wi_id (by omega) (by omega)] at hr
    have hw : hiN (8 * j) 8 = 8 * (j + 1) := by rw [hiN_eq]; omega
    have hx : (l.length : Int) - 1 - j - 1 = (l.length : Int) - 1 - ((j + 1 : Nat) : Int) := by omega
    rw [hw, hx] at hr
    have ho : ∀ k, k < 8 → AllP (hiOb l ((l.length : Int) - 1 - j) (hiUp l j) (8 * j) k) := fun k hk => hiOb_ok hi0 hi1 (hiUp_len l j).symm (by unfold limN; omega)
    exact .lp (.at 1 hiTd 3000 hr (AllP_app (ho 7 (by decide)) (AllP_app (ho 6 (by decide)) (AllP_app (ho 5 (by decide)) (AllP_app (ho 4 (by decide)) (AllP_app (ho 3 (by decide)) (AllP_app (ho 2 (by decide)) (AllP_app (ho 1 (by decide)) (ho 0 (by decide))))))))) (ih (j + 1) (by omega) (by omega)))

def hiPre (l : List Int) : List Prop := [0 < l.length ∧ l.length ≤ 1048576]
def spHigh : SlSpec := spA .u8 .read (fun l => .row 5 [.arr .u8 (highF l)]) hiPre
theorem high_ok : SlOK Try.prog 72 spHigh :=
  spA_read (tableOK_nil _) mixed (fn := hiF) Try.func72 (by decide +kernel) (by kernel_rfl) (by kernel_rfl) fun l e hp => by
    obtain ⟨⟨h0, hl⟩, _⟩ := hp
    refine .at 1 hiTd0 300 (hi_first l e) trivial (.loop ?_)
    have hi0 : 0 ≤ (l.length : Int) - 1 := by omega
    have hi1 : (l.length : Int) - 1 < l.length := by omega
    have hw : wi ((l.length : Int) - 1) = (l.length : Int) - 1 := wi_id (by omega) (by omega)
    rw [hw]
    have hr := hi_round0 l e ((l.length : Int) - 1)
    rw [show decide ((l.length : Int) - 1 ≥ 0) = true from decide_eq_true hi0, cond_true, wi_id (by omega) (by omega)] at hr
    have ho := hiO_ok hi0 hi1
    refine .at 1 hiTd 3000 hr (AllP_app ho (AllP_app ho (AllP_app ho (AllP_app ho (AllP_app ho (AllP_app ho (AllP_app ho ho))))))) ?_
    have hg := hi_loop l e hl (l.length - 1) 1 rfl (by omega)
    have hz : hiUp l 1 = [bitE l ((l.length : Int) - 1) 7, bitE l ((l.length : Int) - 1) 6, bitE l ((l.length : Int) - 1) 5, bitE l ((l.length : Int) - 1) 4, bitE l ((l.length : Int) - 1) 3, bitE l ((l.length : Int) - 1) 2, bitE l ((l.length : Int) - 1) 1, bitE l ((l.length : Int) - 1) 0] := by
      simp [hiUp, hiA]
    rw [hz] at hg
    exact hg

end Go.Proofs.Ytahkpabndfaoiaa
