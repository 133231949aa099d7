/-
The statements: what sums in any order, so often and so often come to.
-/
import Derived.Test.YtahkpabndfaoiaaQM

/- The statements: what sums in any order, so often and so often come to. -/
namespace Go.Proofs.Ytahkpabndfaoiaa
open Eng Go Go.RowKit Go.Proofs Ec

noncomputable abbrev eiF : Func := Try.f5
def x4C (p : X4) : List Cell := [.fe p.x, .fe p.y, .fe p.z, .fe p.t]
def eiS (p q : X4) (k : Nat) (n : Int) (s : List Cell) (i : Int) : St :=
  ⟨[.any, .any, .any, .pv (.one (.val (.int .u8 n))), .any, .any, ptv 6, .any, .any, .any, ptv 10, .any, ptv 12, .any, .any, ptv 15, .pv (iv i)] ++ List.replicate 73 .any,
  [[], [], [], [], [], [], [⟨[.dig .u8 8 k 32], 23, .var⟩], [], [], [], [⟨x4C p, 29, .var⟩], [], [⟨x4C q, 29, .var⟩], [], [],
    [⟨s, 29, .var⟩]] ++ List.replicate 74 []⟩
def eiTd : Td := ⟨[3, 6, 10, 12, 15, 16], [], [4, 5, 9, 11, 13, 14]⟩
def zero16c : List Cell := intsC .u64 (List.replicate 16 0)
section
variable (o : GOps) (r : ROps) (a b k : Nat) (n : Int)
def noS : Option (StopS × List Prop) := some (.out (.val (.pv (bo false))), [])
theorem ei_first : runS Try.prog (lookT (T31 o r)) eiF 1 eiTd 300 [.code (bodyOf eiF)] (Eng.start eiF.ntmps [keyP a, keyP b, keyP k, .one (.val (.int .u8 n))]) =
    cond (!o.same (o.padd (o.q4 a) (o.q4 b)) (o.padd (o.q4 b) (o.q4 a))) noS
      (cond (!o.same (o.padd (o.padd (o.q4 a) (o.q4 b)) (o.pmul o.pbase k)) (o.padd (o.q4 a) (o.padd (o.q4 b) (o.pmul o.pbase k)))) noS
        (some (.at (.code (.loop (hd eiF).1) :: (hd eiF).2) (eiS (o.q4 a) (o.q4 b) k n zero16c 0), []))) := by kernel_rfl
def ltB (x y : Int) : Bool := decide (x < y)
def outS1 (b : Bool) (l : List Prop) : Option (StopS × List Prop) := some (.out (.val (.pv (bo b))), l)
theorem ei_round (p q s : X4) (i : Int) : runS Try.prog (lookT (T31 o r)) eiF 1 eiTd 300 (.code (hd eiF).1 :: .lp (hd eiF).1 :: (hd eiF).2) (eiS p q k n (x4C s) i) =
    cond (ltB i (IntKind.wrap .i64 (n.tmod 9))) (some (.at (.lp (hd eiF).1 :: (hd eiF).2) (eiS p q k n (x4C (o.padd s p)) (IntKind.wrap .i64 (i + 1))), []))
      (cond (o.same s (o.pmul p (numI 8 (K1 (n.tmod 9)))))
        (cond (o.same (o.pmul (o.padd p q) k) (o.padd (o.pmul p k) (o.pmul q k))) (outS1 true [kB1 (n.tmod 9)]) (outS1 false [kB1 (n.tmod 9)]))
        (outS1 false [kB1 (n.tmod 9)])) := by kernel_rfl
end
theorem zero_x4 (ρ : Env) : denCs ρ zero16c = denCs ρ (x4C X4.nil) := by kernel_rfl
theorem wrapI {x : Int} (h : 0 ≤ x) (h' : x < 1000) : IntKind.wrap .i64 x = x := by
  rw [IntKind.wrap_i64]
  omega
theorem tm9 (m : Nat) : ((m : Nat) : Int).tmod 9 = ((m % 9 : Nat) : Int) := by
  rw [Int.tmod_eq_emod_of_nonneg (Int.natCast_nonneg _)]
  rfl
theorem K1_of (m : Nat) : numI 8 (K1 ((m : Nat) : Int)) = m := by rw [K1_num, Int.toNat_natCast]
theorem mulP_small {p : X4} {c : Pt Ec.P Ec.D} (h : Rep p c) {j : Nat} (hj : j < 2 ^ 256) : Rep (mulP p j) (pmul c j) := by
  have := mulP_rep h j
  rwa [Nat.mod_eq_of_lt hj] at this
theorem small9 {j : Nat} (h : j < 9) : j < 2 ^ 256 := Nat.lt_trans h (by decide)
theorem ei_loop (p q : X4) (k m : Nat) {c d : Pt Ec.P Ec.D} (hp : Rep p c) (hq : Rep q d) : ∀ (n j : Nat) (s : X4), m % 9 - j = n → j ≤ m % 9 → Rep s (pmul c j) →
    Goes Try.prog (lookT (T31 gops rops)) eiF (OutIs (.val truth)) (.code (hd eiF).1 :: .lp (hd eiF).1 :: (hd eiF).2) (eiS p q k (m : Int) (x4C s) (j : Int)) := by
  have hm : m % 9 < 9 := Nat.mod_lt _ (by decide)
  intro n
  induction n with
  | zero =>
    intro j s hn hj hs
    have hx := ei_round gops rops k (m : Int) p q s (j : Int)
    rw [tm9, wrapI (by omega) (by omega), K1_of] at hx
    have hl : ltB (j : Int) ((m % 9 : Nat) : Int) = false := decide_eq_false (by omega)
    have hjm : j = m % 9 := by omega
    subst hjm
    simp only [g_same, g_add, g_mul] at hx
    rw [hl, cond_false, same_of hs (mulP_small hp (small9 hm)) rfl, cond_true, same_of (mulP_rep (hp.add hq) k) ((mulP_rep hp k).add (mulP_rep hq k)) (curP.mul_sum c d _), cond_true] at hx
    exact .out 1 eiTd 300 hx ⟨kB1_ok (by omega), trivial⟩ ⟨.bool true, rfl, rfl⟩
  | succ n ih =>
    intro j s hn hj hs
    have hx := ei_round gops rops k (m : Int) p q s (j : Int)
    rw [tm9, wrapI (by omega) (by omega), wrapI (by omega) (by omega)] at hx
    have hl : ltB (j : Int) ((m % 9 : Nat) : Int) = true := decide_eq_true (by omega)
    rw [hl, cond_true] at hx
    exact .at 1 eiTd 300 hx trivial (.lp (ih (j + 1) (X4.add s p) (by omega) (by omega) (hs.add hp)))
theorem ei_goes (a b k m : Nat) : Goes Try.prog (lookT (T31 gops rops)) eiF (OutIs (.val truth)) [.code (bodyOf eiF)] (Eng.start eiF.ntmps [keyP a, keyP b, keyP k, .one (.val (.int .u8 (m : Int)))]) := by
  have hx := ei_first gops rops a b k (m : Int)
  obtain ⟨c, hp, _⟩ := any_pt a
  obtain ⟨d, hq, _⟩ := any_pt b
  simp only [g_same, g_add, g_mul, g_q4, g_base] at hx
  rw [same_of (hp.add hq) (hq.add hp) (curP.add_comm c d), same_of ((hp.add hq).add (baseP_rep k)) (hp.add (hq.add (baseP_rep k))) (curP.add_assoc c d _)] at hx
  refine .at 1 eiTd 300 hx trivial (.loop (.cells 15 (x4C X4.nil) zero_x4 ?_))
  exact ei_loop _ _ k m hp hq (m % 9) 0 X4.nil rfl (Nat.zero_le _) rep_nil
theorem edwardsIs_calls (k0 k1 k2 : Nat) {t3 : Int} (h3 : 0 ≤ t3 ∧ t3 < 256) (w : World) : Calls Try.prog 5 #[keyV k0, keyV k1, keyV k2, .int .u8 t3] w fun e w' => e = .returned (.bool true) ∧ Below w.heap.size w w' := by
  obtain ⟨m, rfl⟩ : ∃ m : Nat, t3 = (m : Int) := ⟨t3.toNat, by omega⟩
  exact goes_calls T31_ok mixed Try.func5 (by kernel_rfl) (ps := [keyP k0, keyP k1, keyP k2, .one (.val (.int .u8 (m : Int)))]) (vals := [keyV k0, keyV k1, keyV k2, .int .u8 (m : Int)]) rfl (by kernel_rfl) (sv := truth) rfl (ei_goes k0 k1 k2 m) w
end Go.Proofs.Ytahkpabndfaoiaa
